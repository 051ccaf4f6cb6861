/- txs.get: a message taken off. -/
import Derived.Test.YteajgnoimbdkbaaGreatDoorOwnMsg
import Derived.Deep.DeepCutAuto
namespace Go.Proofs.YteajgnoimbdkbaaGreatDoor
open Go.RowKit

theorem ReaderAt.drew {B g : Nat} {r : Rd} {w : World} (h : ReaderAt B g r w) : ReaderAt B g r w.drew := h.keep ((Below.refl _ _).drew)
theorem grown_undrew {w w' : World} {r : Option Nat} (h : w.drew.grownBy w' r) : w.grownBy w' r := ⟨h.os, h.tape, h.output, h.size, h.block⟩
/-- Where get stands: the reader, the message under way in block gm, the result's block gr. -/
structure GetSt (B g gr gm : Nat) (w0 w : World) (k : Int) (t i d : Value) (r : Rd) : Prop where
  rd : ReaderAt B g r w
  len : r.b.length ≤ 140737488355328
  box : w.heap[gm]? = some (.cells #[.int .i64 k, t, i, d] 35 (0, 0))
  res : w.heap[gr]? = some (.cells #[.int .i64 0, .slice none 0 0, .slice none 0 0, .slice none 0 0] 35 (0, 0))
  grown : w0.grownBy w (some g)
theorem GetSt.reader {B g gr gm : Nat} {w0 w w' : World} {k : Int} {t i d : Value} {r r' : Rd} (h : GetSt B g gr gm w0 w k t i d r) (h1 : gr ≠ g) (h2 : gm ≠ g) (hr : ReaderAt B g r' w') (hl : r'.b.length ≤ r.b.length) (hg : w.grownBy w' (some g)) : GetSt B g gr gm w0 w' k t i d r' :=
  ⟨hr, Nat.le_trans hl h.len, box_keepG h.box hg h2, box_keepG h.res hg h1, grown_trans h.grown hg⟩
theorem GetSt.cells {B g gr gm : Nat} {w0 w : World} {k : Int} {t i d : Value} {r : Rd} (h : GetSt B g gr gm w0 w k t i d r) : w.cell? ⟨gm, 0, none⟩ = some (.int .i64 k) ∧ w.cell? ⟨gm, 1, none⟩ = some t ∧ w.cell? ⟨gm, 2, none⟩ = some i ∧ w.cell? ⟨gm, 3, none⟩ = some d ∧ (∀ o, w.frozen? ⟨gm, o, none⟩ = false) ∧ gm < w.heap.size := by
  refine ⟨?_, ?_, ?_, ?_, fun o => Lib.frozen_of_heap h.box o, (Array.getElem?_eq_some_iff.1 h.box).1⟩ <;> simp [World.cell?, h.box]
/-- A round's append, and the store of its row. -/
theorem GetSt.push {B g gr gm B' e s n i : Nat} {w0 w w' : World} {k : Int} {t ii d t' ii' d' v u : Value} {r : Rd} {xs : List Value} {o : Obj} (h : GetSt B g gr gm w0 w k t ii d r) (hB : B ≤ gm) (hgm : gm ≠ g) (hBB : gm < B') (hrr : gr < B') (hgg : g < B') (hrm : gr ≠ gm) (he : e ≠ 120) (hw0 : w0.heap.size ≤ gm)
    (ho : (w.alloc o).ownsRow B' e s v n xs) (hg : (w.alloc o).grownBy w' v.ownBlock) (hcs : (#[.int .i64 k, t, ii, d] : Array Value).setIfInBounds i u = #[.int .i64 k, t', ii', d']) : GetSt B g gr gm w0 (w'.setCell ⟨gm, i, none⟩ u) k t' ii' d' r := by
  have hr1 := (h.rd.keep (below_alloc w o)).other ho (by omega) hgg he hg
  have hne : ∀ q, q < B' → some q ≠ v.ownBlock := fun q hq e => by have := (ho.lt q e.symm).1; omega
  have hb1 : w'.heap[gm]? = some (.cells #[.int .i64 k, t, ii, d] 35 (0, 0)) := by
    have hlt := (Array.getElem?_eq_some_iff.1 h.box).1
    exact (hg.block gm (by rw [World.size_alloc]; omega) (hne gm hBB)).trans ((heap_alloc_old w o hlt).trans h.box)
  have hb2 : w'.heap[gr]? = some (.cells #[.int .i64 0, .slice none 0 0, .slice none 0 0, .slice none 0 0] 35 (0, 0)) := by
    have hlt := (Array.getElem?_eq_some_iff.1 h.res).1
    exact (hg.block gr (by rw [World.size_alloc]; omega) (hne gr hrr)).trans ((heap_alloc_old w o hlt).trans h.res)
  refine ⟨hr1.stored hb1 hB hgm (by decide), h.len, box_stored hb1 hcs, (Below.heap_setCell w' ⟨gm, i, none⟩ u gr hrm).trans hb2, ?_⟩
  have h3 : w0.grownBy w' (some g) := by
    have h4 := grown_trans h.grown (World.grownBy_alloc w o (some g))
    refine ⟨hg.os.trans h4.os, hg.tape.trans h4.tape, hg.output.trans h4.output, Nat.le_trans h4.size hg.size, fun q hq hqg => (hg.block q (by have := h4.size; omega) (hne q (by omega))).trans (h4.block q hq hqg)⟩
  exact ⟨h3.os, h3.tape, h3.output, by simpa [World.setCell] using h3.size, fun q hq hqg => (Below.heap_setCell w' ⟨gm, i, none⟩ u q (by simp; omega)).trans (h3.block q hq hqg)⟩

def GetPost (B g : Nat) (r : Rd) (w : World) (e : Ending) (w' : World) : Prop := ∃ p, e = .returned (msgVal p) ∧ ReaderAt B g (rdMsg r).2 w' ∧ (rdMsg r).2.b.length ≤ r.b.length ∧ w.grownBy w' (some g) ∧ OwnMsg w.heap.size w' p (rdMsg r).1 ∧ ∀ u ∈ msgCells p, u.oneCell' = true

set_option maxRecDepth 100000 in
set_option maxHeartbeats 8000000 in
theorem get_any (B g : Nat) (r : Rd) (w : World) (h : ReaderAt B g r w) (hl : r.b.length ≤ 140737488355328) : Calls Tryz.prog 48 #[.pointer (some ⟨g, 0, none⟩)] w (GetPost B g r w) := by
  obtain ⟨i1, hi1, hz1, hs1, hy1⟩ := info_parts infoStrT
  obtain ⟨i2, hi2, hz2, hs2, hy2⟩ := info_parts infoIntT
  obtain ⟨i3, hi3, hz3, hs3, hy3⟩ := info_parts infoBtsT
  obtain ⟨hBg, hgw⟩ := h.lt
  have hwa := h.keep (below_alloc w (.cells #[.int .i64 0, .slice none 0 0, .slice none 0 0, .slice none 0 0] 35))
  have cI := rdInt_any B g r _ hwa hl
  obtain ⟨⟨kk, rk⟩, ek⟩ : ∃ q, rdInt r = q := ⟨_, rfl⟩
  obtain ⟨⟨n1, r1⟩, e1⟩ : ∃ q, rdCount rk 256 = q := ⟨_, rfl⟩
  obtain ⟨⟨T1, r2⟩, e2⟩ : ∃ q, rdMany (fun r => rdBytes r 256) n1 r1 = q := ⟨_, rfl⟩
  obtain ⟨⟨n2, r3⟩, e3⟩ : ∃ q, rdCount r2 256 = q := ⟨_, rfl⟩
  obtain ⟨⟨T2, r4⟩, e4⟩ : ∃ q, rdMany rdInt n2 r3 = q := ⟨_, rfl⟩
  obtain ⟨⟨n3, r5⟩, e5⟩ : ∃ q, rdCount r4 256 = q := ⟨_, rfl⟩
  obtain ⟨⟨T3, r6⟩, e6⟩ : ∃ q, rdMany (fun r => rdBytes r 16384) n3 r5 = q := ⟨_, rfl⟩
  have hR : rdMsg r = (⟨kk, T1, T2, T3⟩, r6) := by simp only [rdMsg, ek, e1, e2, e3, e4, e5, e6]
  have lk := rdInt_len r
  have l1 := rdCount_len rk 256
  have l3 := rdCount_len r2 256
  have l5 := rdCount_len r4 256
  rw [ek] at cI lk
  rw [e1] at l1
  rw [e3] at l3
  rw [e5] at l5
  simp only at lk l1 l3 l5 cI
  have cC1 := fun W hW => rdCount_any B g rk 256 W hW (by omega) (by omega)
  have cC2 := fun W hW (hl2 : r2.b.length ≤ 140737488355328) => rdCount_any B g r2 256 W hW hl2 (by omega)
  have cC3 := fun W hW (hl4 : r4.b.length ≤ 140737488355328) => rdCount_any B g r4 256 W hW hl4 (by omega)
  rw [e1] at cC1
  rw [e3] at cC2
  rw [e5] at cC3
  simp only at cC1 cC2 cC3
  have m2 := rdMany_len (fun r => rdBytes r 256) (fun r => (rdBytes_len r 256).1) n1 r1
  have m4 := rdMany_len rdInt rdInt_len n2 r3
  have m6 := rdMany_len (fun r => rdBytes r 16384) (fun r => (rdBytes_len r 16384).1) n3 r5
  rw [e2] at m2
  rw [e4] at m4
  rw [e6] at m6
  simp only at m2 m4 m6
  have HLr : Hid (r6.b.length ≤ r.b.length) := Lib.hid (by omega)
  clear m2 m4 m6
  have HR := Lib.hid hR
  have E2 := Lib.hid e2
  have E4 := Lib.hid e4
  have E6 := Lib.hid e6
  clear hR ek e1 e2 e3 e4 e5 e6
  go_enter Tryz.func48, Tryz.ntmps48
  go_wp2_with fail
  refine cI.mono ?_
  rintro e w1 ⟨rfl, h1, hg1⟩
  have hz1 := hg1.size
  rw [World.size_alloc] at hz1
  have res1 := box_keepG (heap_alloc_new w (.cells #[.int .i64 0, .slice none 0 0, .slice none 0 0, .slice none 0 0] 35)) hg1 (by omega)
  have g01 := grown_trans (World.grownBy_alloc w (.cells #[.int .i64 0, .slice none 0 0, .slice none 0 0, .slice none 0 0] 35) (some g)) hg1
  have st1 : GetSt B g w.heap.size w1.heap.size w (w1.alloc (.cells #[.int .i64 kk, .slice none 0 0, .slice none 0 0, .slice none 0 0] 35)) kk (.slice none 0 0) (.slice none 0 0) (.slice none 0 0) rk :=
    ⟨h1.keep (below_alloc _ _), by omega, heap_alloc_new w1 _, (heap_alloc_old w1 _ (Array.getElem?_eq_some_iff.1 res1).1).trans res1, grown_trans g01 (World.grownBy_alloc _ _ _)⟩
  have hgr : w.heap.size < w1.heap.size := by omega
  have hgm : g < w1.heap.size := by omega
  have hBm : B ≤ w1.heap.size := by omega
  have hwm : w.heap.size ≤ w1.heap.size := by omega
  have cC := cC1 _ st1.rd
  clear cI cC1 hg1 hz1 res1 g01 h1 hwa
  go_wp2_with fail
  generalize w1.alloc (.cells #[.int .i64 kk, .slice none 0 0, .slice none 0 0, .slice none 0 0] 35) = V1 at *
  generalize hgmq : w1.heap.size = gm at *
  clear hgmq
  generalize hgrq : w.heap.size = gr at *
  have HGR := Lib.hid hgrq
  clear hgrq
  refine cC.mono ?_
  rintro e w2 ⟨rfl, h2, hg2⟩
  have st2 := st1.reader (by omega) (by omega) h2 l1.1 hg2
  have hn1 : n1 ≤ 256 := l1.2
  clear cC st1 h2 hg2 h
  obtain ⟨c0, c1, c2, c3, cf, hltm⟩ := st2.cells
  go_wp2_with fail
  go_loopg [9] n1 (fun k s wq => ∃ (i : Nat) (l : List _) (A : Option Addr) (c : Nat) (ri : Rd), k + i = n1 ∧ s = .int .i64 (i : Int) ∧ Hid (rdMany (fun r => rdBytes r 256) n1 r1 = (l ++ (rdMany (fun r => rdBytes r 256) (n1 - i) ri).1, (rdMany (fun r => rdBytes r 256) (n1 - i) ri).2)) ∧ Hid (l.length = i) ∧ GetSt B g gr gm w wq kk (.slice A i c) (.slice none 0 0) (.slice none 0 0) ri ∧ wq.ownsRow (gm + 1) 9 1 (.slice A i c) i ((l.map strOf).map Value.string))
  case atStart => exact ⟨0, [], none, 0, r1, by omega, rfl, Lib.hid (by simp), Lib.hid rfl, st2, World.ownsRow_nil _ _ _ _⟩
  case round =>
    clear st2 c0 c1 c2 c3 cf hltm
    obtain ⟨i, l, Ta, Tc, ri, hi, rfl, HM, HLn, st, ho⟩ := hrel
    obtain ⟨c0, c1, c2, c3, cf, hltm⟩ := st.cells
    by_cases hlt : i < n1
    · have cX := rdText_any B g ri 256 _ st.rd.drew st.len (by omega)
      have HM2 : Hid (rdMany (fun r => rdBytes r 256) n1 r1 = _) := Lib.hid (rdMany_step (fun r => rdBytes r 256) hlt HM.out)
      have hlen := (rdBytes_len ri 256).1
      unfold RdPost at cX
      generalize hF : (rdBytes ri 256) = F at *
      obtain ⟨x, rj⟩ := F
      simp only at cX hlen
      have HF := Lib.hid hF
      clear hF HM
      have j0 : i + 1 ≤ maxLen := by unfold maxLen; omega
      have j1 : (i + 1) * 16 ≤ 140737488355328 := by omega
      go_wp2_with fail
      go_region_law (first
        | (go_simp; go_at_call 45; (refine cX.mono ?_); rintro e3 y3 ⟨rfl, h3, hg3⟩; have hg3 := grown_undrew hg3; have st3 := st.reader (by omega) (by omega) h3 hlen hg3; have ho3 := own_keepG ho hg3 (by omega); obtain ⟨d0, d1, d2, d3, df, dlt⟩ := st3.cells; have ow1 := ho3.alloc (.cells #[.string (strOf x)] 9); have rw1 : Row (y3.alloc (.cells #[.string (strOf x)] 9)) (.slice (some ⟨y3.heap.size, 0, none⟩) 1 1) 1 1 [.string (strOf x)] := Row.of_own (own_block (base := y3.heap.size) (heap_alloc_new y3 _) (Nat.le_refl _) rfl (by decide)); have bw1 : gm + 1 ≤ (y3.alloc (.cells #[.string (strOf x)] 9)).heap.size := (by rw [World.size_alloc]; omega))
        | (refine step_append_row rfl _ _ 31 rfl (gm + 1) 9 i1 (.string ⟨#[]⟩) 1 16 Tryz.underlying31 hi1 hz1 hs1 hy1 rfl (by decide) (.slice Ta i Tc) i ((l.map strOf).map Value.string) rfl ow1 (.slice (some ⟨y3.heap.size, 0, none⟩) 1 1) 1 [.string (strOf x)] rfl rw1 (by simp [Value.oneCell']) j0 j1 bw1 ?_; intro A1 c1' y4 hown hgrow hat; have hy4 := hgrow.size; rw [World.size_alloc] at hy4; have hb4 := (hgrow.block gm (by rw [World.size_alloc]; omega) (fun e => by have := (ow1.lt gm e.symm).1; omega)).trans ((heap_alloc_old y3 _ dlt).trans st3.box); have f1 := Lib.cell_of_heap hb4 1; have ff := Lib.frozen_of_heap hb4 1; have HB4 := Lib.hid hb4; clear hb4))
      all_goals
        go_wp2_with fail
        go_roundg (n1 - (i + 1))
        case measure => omega
        case rel =>
          refine ⟨i + 1, l ++ [x], A1, c1', rj, by omega, by go_num, HM2, Lib.hid (by rw [List.length_append, HLn.out]; rfl), GetSt.push st3 hBm (by omega) (by omega) (by omega) (by omega) (by omega) (by decide) (by rw [HGR.out]; omega) ow1 hgrow rfl, by rw [List.map_append, List.map_append]; exact own_stored hown (Nat.lt_succ_self _)⟩
    · have hst := rdMany_stop (fun r => rdBytes r 256) (Nat.le_of_not_lt hlt) HM.out
      rw [E2.out] at hst
      obtain ⟨rfl, rfl⟩ := Prod.mk.inj hst
      obtain rfl : n1 = i := by omega
      clear hst HM hlt
      have HL1 := HLn
      have cC := cC2 _ st.rd st.len
      go_wp2_with fail
      refine cC.mono ?_
      rintro e w3 ⟨rfl, h3, hg3⟩
      have st3 := st.reader (by omega) (by omega) h3 l3.1 hg3
      have HoT := own_keepG ho hg3 (by omega)
      have hn2 : n2 ≤ 256 := l3.2
      clear cC st h3 hg3 c0 c1 c2 c3 cf hltm ho
      obtain ⟨c0, c1, c2, c3, cf, hltm⟩ := st3.cells
      go_wp2_with fail
      go_loopg [21] n2 (fun k s wq => ∃ (i : Nat) (l : List _) (A : Option Addr) (c : Nat) (ri : Rd), k + i = n2 ∧ s = .int .i64 (i : Int) ∧ Hid (rdMany rdInt n2 r3 = (l ++ (rdMany rdInt (n2 - i) ri).1, (rdMany rdInt (n2 - i) ri).2)) ∧ Hid (l.length = i) ∧ GetSt B g gr gm w wq kk (.slice Ta n1 Tc) (.slice A i c) (.slice none 0 0) ri ∧ wq.ownsRow (gm + 1) 3 1 (.slice A i c) i (intsV l) ∧ wq.ownsRow (gm + 1) 9 1 (.slice Ta n1 Tc) n1 ((T1.map strOf).map Value.string))
      case atStart => exact ⟨0, [], none, 0, r3, by omega, rfl, Lib.hid (by simp), Lib.hid rfl, st3, World.ownsRow_nil _ _ _ _, HoT⟩
      case round =>
        clear st3 c0 c1 c2 c3 cf hltm HoT
        obtain ⟨i, l, Ia, Ic, ri, hi, rfl, HM, HLn, st, ho, HoT⟩ := hrel
        obtain ⟨c0, c1, c2, c3, cf, hltm⟩ := st.cells
        by_cases hlt : i < n2
        · have cX := rdInt_any B g ri _ st.rd.drew st.len
          have HM2 : Hid (rdMany rdInt n2 r3 = _) := Lib.hid (rdMany_step rdInt hlt HM.out)
          have hlen := rdInt_len ri
          unfold RdPost at cX
          generalize hF : (rdInt ri) = F at *
          obtain ⟨x, rj⟩ := F
          simp only at cX hlen
          have HF := Lib.hid hF
          clear hF HM
          have j0 : i + 1 ≤ maxLen := by unfold maxLen; omega
          have j1 : (i + 1) * 8 ≤ 140737488355328 := by omega
          go_wp2_with fail
          go_region_law (first
            | (go_simp; go_at_call 46; (refine cX.mono ?_); rintro e3 y3 ⟨rfl, h3, hg3⟩; have hg3 := grown_undrew hg3; have st3 := st.reader (by omega) (by omega) h3 hlen hg3; have ho3 := own_keepG ho hg3 (by omega); obtain ⟨d0, d1, d2, d3, df, dlt⟩ := st3.cells; have ow1 := ho3.alloc (.cells #[.int .i64 x] 3); have rw1 : Row (y3.alloc (.cells #[.int .i64 x] 3)) (.slice (some ⟨y3.heap.size, 0, none⟩) 1 1) 1 1 [.int .i64 x] := Row.of_own (own_block (base := y3.heap.size) (heap_alloc_new y3 _) (Nat.le_refl _) rfl (by decide)); have bw1 : gm + 1 ≤ (y3.alloc (.cells #[.int .i64 x] 3)).heap.size := (by rw [World.size_alloc]; omega); have HoT3 := own_keepG HoT hg3 (by omega))
            | (refine step_append_row rfl _ _ 32 rfl (gm + 1) 3 i2 (.int .i64 0) 1 8 Tryz.underlying32 hi2 hz2 hs2 hy2 rfl (by decide) (.slice Ia i Ic) i (intsV l) rfl ow1 (.slice (some ⟨y3.heap.size, 0, none⟩) 1 1) 1 [.int .i64 x] rfl rw1 (by simp [Value.oneCell']) j0 j1 bw1 ?_; intro A1 c1' y4 hown hgrow hat; have hy4 := hgrow.size; rw [World.size_alloc] at hy4; have hb4 := (hgrow.block gm (by rw [World.size_alloc]; omega) (fun e => by have := (ow1.lt gm e.symm).1; omega)).trans ((heap_alloc_old y3 _ dlt).trans st3.box); have f1 := Lib.cell_of_heap hb4 2; have ff := Lib.frozen_of_heap hb4 2; have HB4 := Lib.hid hb4; clear hb4))
          all_goals
            go_wp2_with fail
            go_roundg (n2 - (i + 1))
            case measure => omega
            case rel =>
              refine ⟨i + 1, l ++ [x], A1, c1', rj, by omega, by go_num, HM2, Lib.hid (by rw [List.length_append, HLn.out]; rfl), GetSt.push st3 hBm (by omega) (by omega) (by omega) (by omega) (by omega) (by decide) (by rw [HGR.out]; omega) ow1 hgrow rfl, by rw [intsV, List.map_append]; exact own_stored hown (Nat.lt_succ_self _), own_stored (own_other (HoT3.alloc _) ow1 (by decide) hgrow) (Nat.lt_succ_self _)⟩
        · have hst := rdMany_stop rdInt (Nat.le_of_not_lt hlt) HM.out
          rw [E4.out] at hst
          obtain ⟨rfl, rfl⟩ := Prod.mk.inj hst
          obtain rfl : n2 = i := by omega
          clear hst HM hlt
          have HL2 := HLn
          have cC := cC3 _ st.rd st.len
          go_wp2_with fail
          refine cC.mono ?_
          rintro e w3 ⟨rfl, h3, hg3⟩
          have st4 := st.reader (by omega) (by omega) h3 l5.1 hg3
          have HoI := own_keepG ho hg3 (by omega)
          have HoT := own_keepG HoT hg3 (by omega)
          have hn3 : n3 ≤ 256 := l5.2
          clear cC st h3 hg3 c0 c1 c2 c3 cf hltm ho
          obtain ⟨c0, c1, c2, c3, cf, hltm⟩ := st4.cells
          go_wp2_with fail
          go_loopg [33] n3 (fun k s wq => ∃ (i : Nat) (l : List _) (A : Option Addr) (c : Nat) (ri : Rd), k + i = n3 ∧ s = .int .i64 (i : Int) ∧ Hid (rdMany (fun r => rdBytes r 16384) n3 r5 = (l ++ (rdMany (fun r => rdBytes r 16384) (n3 - i) ri).1, (rdMany (fun r => rdBytes r 16384) (n3 - i) ri).2)) ∧ Hid (l.length = i) ∧ GetSt B g gr gm w wq kk (.slice Ta n1 Tc) (.slice Ia n2 Ic) (.slice A i c) ri ∧ OwnDatas (gm + 1) wq (.slice A i c) l ∧ wq.ownsRow (gm + 1) 9 1 (.slice Ta n1 Tc) n1 ((T1.map strOf).map Value.string) ∧ wq.ownsRow (gm + 1) 3 1 (.slice Ia n2 Ic) n2 (intsV T2))
          case atStart => exact ⟨0, [], none, 0, r5, by omega, rfl, Lib.hid (by simp), Lib.hid rfl, st4, ⟨[], World.ownsRow_nil _ _ _ _, by simp, by simp⟩, HoT, HoI⟩
          case round =>
            clear st4 c0 c1 c2 c3 cf hltm HoT HoI
            obtain ⟨i, l, Da, Dc, ri, hi, rfl, HM, HLn, st, ho, HoT, HoI⟩ := hrel
            obtain ⟨c0, c1, c2, c3, cf, hltm⟩ := st.cells
            by_cases hlt : i < n3
            · have cX := rdBytes_any B g ri 16384 _ st.rd.drew st.len (by omega)
              have HM2 : Hid (rdMany (fun r => rdBytes r 16384) n3 r5 = _) := Lib.hid (rdMany_step (fun r => rdBytes r 16384) hlt HM.out)
              have hlen := (rdBytes_len ri 16384).1
              obtain ⟨vs, ho, hvo, hvv⟩ := ho
              rw [HLn.out] at ho
              have HVO := Lib.hid hvo
              have HVV := Lib.hid hvv
              clear hvo hvv
              unfold RdRow at cX
              generalize hF : (rdBytes ri 16384) = F at *
              obtain ⟨x, rj⟩ := F
              simp only at cX hlen
              have HF := Lib.hid hF
              clear hF HM
              have j0 : i + 1 ≤ maxLen := by unfold maxLen; omega
              have j1 : (i + 1) * 24 ≤ 140737488355328 := by omega
              go_wp2_with fail
              go_region_law (first
                | (go_simp; go_at_call 49; (refine cX.mono ?_); rintro e3 y3 ⟨Ad, cd, rfl, h3, hg3, hod⟩; have hg3 := grown_undrew hg3; have st3 := st.reader (by omega) (by omega) h3 hlen hg3; have ho3 := own_keepG ho hg3 (by omega); obtain ⟨d0, d1, d2, d3, df, dlt⟩ := st3.cells; have ow1 := ho3.alloc (.cells #[.slice Ad x.length cd] 27); have rw1 : Row (y3.alloc (.cells #[.slice Ad x.length cd] 27)) (.slice (some ⟨y3.heap.size, 0, none⟩) 1 1) 1 1 [.slice Ad x.length cd] := Row.of_own (own_block (base := y3.heap.size) (heap_alloc_new y3 _) (Nat.le_refl _) rfl (by decide)); have bw1 : gm + 1 ≤ (y3.alloc (.cells #[.slice Ad x.length cd] 27)).heap.size := (by rw [World.size_alloc]; omega); have HoT3 := own_keepG HoT hg3 (by omega); have HoI3 := own_keepG HoI hg3 (by omega))
                | (refine step_append_row rfl _ _ 33 rfl (gm + 1) 27 i3 (.slice none 0 0) 1 24 Tryz.underlying33 hi3 hz3 hs3 hy3 rfl (by decide) (.slice Da i Dc) i vs rfl ow1 (.slice (some ⟨y3.heap.size, 0, none⟩) 1 1) 1 [.slice Ad x.length cd] rfl rw1 (by simp [Value.oneCell']) j0 j1 bw1 ?_; intro A1 c1' y4 hown hgrow hat; have hy4 := hgrow.size; rw [World.size_alloc] at hy4; have hb4 := (hgrow.block gm (by rw [World.size_alloc]; omega) (fun e => by have := (ow1.lt gm e.symm).1; omega)).trans ((heap_alloc_old y3 _ dlt).trans st3.box); have f1 := Lib.cell_of_heap hb4 3; have ff := Lib.frozen_of_heap hb4 3; have HB4 := Lib.hid hb4; clear hb4))
              all_goals
                go_wp2_with fail
                go_roundg (n3 - (i + 1))
                case measure => omega
                case rel =>
                  refine ⟨i + 1, l ++ [x], A1, c1', rj, by omega, by go_num, HM2, Lib.hid (by rw [List.length_append, HLn.out]; rfl), GetSt.push st3 hBm (by omega) (by omega) (by omega) (by omega) (by omega) (by decide) (by rw [HGR.out]; omega) ow1 hgrow rfl, ?_, own_stored (own_other (HoT3.alloc _) ow1 (by decide) hgrow) (Nat.lt_succ_self _), own_stored (own_other (HoI3.alloc _) ow1 (by decide) hgrow) (Nat.lt_succ_self _)⟩
                  refine ⟨vs ++ [.slice Ad x.length cd], ?_, ?_, ?_⟩
                  · rw [List.length_append, HLn.out]; exact own_stored hown (Nat.lt_succ_self _)
                  · intro u hu
                    rcases List.mem_append.1 hu with hu | hu
                    · exact HVO.out u hu
                    · rw [List.mem_singleton.1 hu]; rfl
                  · intro j u b hu hb
                    have hvl : vs.length = i := by have := ho3.1; omega
                    rcases Nat.lt_or_ge j i with hj | hj
                    · rw [List.getElem?_append_left (by omega)] at hu
                      rw [List.getElem?_append_left (by rw [HLn.out]; exact hj)] at hb
                      exact own_stored (own_other ((own_keepG (HVV.out j u b hu hb) hg3 (by omega)).alloc _) ow1 (by decide) hgrow) (Nat.lt_succ_self _)
                    · rw [List.getElem?_append_right (by omega), hvl] at hu
                      rw [List.getElem?_append_right (by rw [HLn.out]; exact hj), HLn.out] at hb
                      obtain ⟨rfl, rfl⟩ : Value.slice Ad x.length cd = u ∧ x = b := by
                        rcases hji : j - i with _ | q
                        · rw [hji] at hu hb; exact ⟨by simpa using hu, by simpa using hb⟩
                        · rw [hji] at hu; simp at hu
                      exact own_stored (own_other ((World.ownsRow.mono hod (by have := dlt; have := st.cells.2.2.2.2.2; show gm + 1 ≤ wr.heap.size; omega)).alloc _) ow1 (by decide) hgrow) (Nat.lt_succ_self _)
            · have hst := rdMany_stop (fun r => rdBytes r 16384) (Nat.le_of_not_lt hlt) HM.out
              rw [E6.out] at hst
              obtain ⟨rfl, rfl⟩ := Prod.mk.inj hst
              obtain rfl : n3 = i := by omega
              clear hst HM hlt
              have HL3 := HLn
              have hg5 := Array.getElem?_eq_some_iff.1 st.res
              have m0 : wr.cell? ⟨gr, 0, none⟩ = some (.int .i64 0) := by simp [World.cell?, st.res]
              have m1 : wr.cell? ⟨gr, 1, none⟩ = some (.slice none 0 0) := by simp [World.cell?, st.res]
              have m2 : wr.cell? ⟨gr, 2, none⟩ = some (.slice none 0 0) := by simp [World.cell?, st.res]
              have m3 : wr.cell? ⟨gr, 3, none⟩ = some (.slice none 0 0) := by simp [World.cell?, st.res]
              have mf := fun o => Lib.frozen_of_heap st.res o
              clear hg5
              go_wp2_with fail
              refine bodyPost_ret (v := msgVal ⟨kk, .slice Ta n1 Tc, .slice Ia n2 Ic, .slice Da n3 Dc⟩) (by simp [results, Tryz.results48, go_sem, msgVal, m0, m1, m2, m3]) rfl ?_
              obtain ⟨vs, hv1, hv0, hv2⟩ := ho
              have hOM : OwnMsg (gm + 1) wr ⟨kk, .slice Ta n1 Tc, .slice Ia n2 Ic, .slice Da n3 Dc⟩ ⟨kk, T1, T2, T3⟩ := ⟨rfl, by rw [HL1.out]; exact HoT, by rw [HL2.out]; exact HoI, vs, hv1, hv0, hv2⟩
              have hlm : gm < wr.heap.size := hltm
              have k0 := box_stored (i := 0) (u := .int .i64 kk) st.res rfl
              have k1 := box_stored (i := 1) (u := .slice Ta n1 Tc) k0 rfl
              have k2 := box_stored (i := 2) (u := .slice Ia n2 Ic) k1 rfl
              have hBr : B ≤ gr := by omega
              have hrg : gr ≠ g := by omega
              have r4 := (((st.rd.stored (i := 0) (u := .int .i64 kk) st.res hBr hrg (by decide)).stored (i := 1) (u := .slice Ta n1 Tc) k0 hBr hrg (by decide)).stored (i := 2) (u := .slice Ia n2 Ic) k1 hBr hrg (by decide)).stored (i := 3) (u := .slice Da n3 Dc) k2 hBr hrg (by decide)
              have o4 := (((hOM.stored (k := gr) (i := 0) (u := .int .i64 kk) (by omega)).stored (k := gr) (i := 1) (u := .slice Ta n1 Tc) (by omega)).stored (k := gr) (i := 2) (u := .slice Ia n2 Ic) (by omega)).stored (k := gr) (i := 3) (u := .slice Da n3 Dc) (by omega)
              refine ⟨_, rfl, ?_, ?_, ?_, ?_, ?_⟩
              · rw [HR.out]; exact r4
              · rw [HR.out]; exact HLr.out
              · exact grown_sets HGR.out (grown_sets HGR.out (grown_sets HGR.out (grown_sets HGR.out st.grown _ _) _ _) _ _) _ _
              · rw [HR.out, HGR.out]; exact o4.mono (by omega)
              · intro u hu; simp only [msgCells, List.mem_cons, List.not_mem_nil, or_false] at hu; rcases hu with rfl | rfl | rfl | rfl <;> rfl
end Go.Proofs.YteajgnoimbdkbaaGreatDoor

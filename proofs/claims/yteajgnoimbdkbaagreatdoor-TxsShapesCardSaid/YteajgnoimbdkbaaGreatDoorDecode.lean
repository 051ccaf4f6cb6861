/- txs.Decode: the transaction of bytes. -/
import Derived.Test.YteajgnoimbdkbaaGreatDoorOwnMsgs
import Derived.Test.YteajgnoimbdkbaaGreatDoorEncode
namespace Go.Proofs.YteajgnoimbdkbaaGreatDoor
open Go.RowKit

/-- The transaction of bytes, and the error's number. -/
def decF (b : List UInt8) : TxD × Int := if doneN (rdTx b).2 ≠ 0 ∨ txN (rdTx b).1 ≠ 0 ∨ 65536 < b.length then (emptyTx, 3) else ((rdTx b).1, 0)
def DecPost (r : TxD × Int) (w : World) (e : Ending) (w' : World) : Prop := ∃ v ev, e = .returned (.tuple #[v, ev]) ∧ TxAt w' v r.1 ∧ IsErr w' ev r.2 ∧ Below w.heap.size w w'
theorem rdMany_count {α : Type} (f : Rd → α × Rd) : ∀ (n : Nat) (r : Rd), (rdMany f n r).1.length = n
  | 0, _ => rfl
  | n + 1, r => by simp only [rdMany, List.length_cons, rdMany_count f n (f r).2]
theorem rdMany_all {α : Type} {f : Rd → α × Rd} {P : α → Prop} (hf : ∀ r, P (f r).1) : ∀ (n : Nat) (r : Rd), ∀ x ∈ (rdMany f n r).1, P x
  | 0, _, x, h => by simp [rdMany] at h
  | n + 1, r, x, h => by
    simp only [rdMany, List.mem_cons] at h
    rcases h with rfl | h
    · exact hf r
    · exact rdMany_all hf n _ x h
theorem rdMsg_small (r : Rd) : MsgSmall (rdMsg r).1 := by
  refine ⟨?_, ?_, ?_, ?_, ?_⟩ <;> simp only [rdMsg]
  · rw [rdMany_count]; have := (rdCount_len (rdInt r).2 256).2; omega
  · rw [rdMany_count]; have := fun r => (rdCount_len r 256).2; exact Nat.le_trans (this _) (by omega)
  · rw [rdMany_count]; have := fun r => (rdCount_len r 256).2; exact Nat.le_trans (this _) (by omega)
  · exact rdMany_all (P := fun t : List UInt8 => t.length ≤ 1048576) (fun r => by have := (rdBytes_len r 256).2; omega) _ _
  · exact rdMany_all (P := fun t : List UInt8 => t.length ≤ 1048576) (fun r => by have := (rdBytes_len r 16384).2; omega) _ _
theorem rdTx_small (b : List UInt8) : TxSmall (rdTx b).1 := by
  refine ⟨?_, ?_, ?_, ?_, ?_⟩ <;> simp only [rdTx]
  · exact Nat.le_trans (rdBytes_len _ _).2 (by omega)
  · exact Nat.le_trans (rdBytes_len _ _).2 (by omega)
  · rw [rdMany_count]; exact Nat.le_trans (rdCount_len _ _).2 (by omega)
  · exact Nat.le_trans (rdBytes_len _ _).2 (by omega)
  · exact rdMany_all rdMsg_small _ _

set_option maxRecDepth 100000 in
set_option maxHeartbeats 8000000 in
theorem decode_any (v : Value) (b : List UInt8) (w : World) (h : Bts w v b) (hl : b.length ≤ 140737488355328) (hT : U8Tabs w) (hM : MaxLenAt w) : Calls Tryz.prog 18 #[v] w (DecPost (decF b) w) := by
  obtain ⟨i1, hi1, hz1, hs1, hy1⟩ := info_parts infoMsgT
  have hba := below_alloc w (.cells #[.string ⟨#[]⟩, .int .i64 0, .string ⟨#[]⟩, .int .i64 0, .slice none 0 0, .slice none 0 0] 29)
  have cR := read_any v b _ (h.keep hba)
  have hsm := rdTx_small b
  obtain ⟨⟨xa, r1⟩, e1⟩ : ∃ q, rdBytes ⟨b, 0⟩ 256 = q := ⟨_, rfl⟩
  obtain ⟨⟨xs, r2⟩, e2⟩ : ∃ q, rdInt r1 = q := ⟨_, rfl⟩
  obtain ⟨⟨xd, r3⟩, e3⟩ : ∃ q, rdBytes r2 256 = q := ⟨_, rfl⟩
  obtain ⟨⟨xf, r4⟩, e4⟩ : ∃ q, rdInt r3 = q := ⟨_, rfl⟩
  obtain ⟨⟨n, r5⟩, e5⟩ : ∃ q, rdCount r4 8 = q := ⟨_, rfl⟩
  obtain ⟨⟨xm, r6⟩, e6⟩ : ∃ q, rdMany rdMsg n r5 = q := ⟨_, rfl⟩
  obtain ⟨⟨xg, r7⟩, e7⟩ : ∃ q, rdBytes r6 8192 = q := ⟨_, rfl⟩
  have hR : rdTx b = (⟨xa, xs, xd, xf, xm, xg⟩, r7) := by simp only [rdTx, e1, e2, e3, e4, e5, e6, e7]
  rw [hR] at hsm
  have l1 := (rdBytes_len ⟨b, 0⟩ 256).1
  have l2 := rdInt_len r1
  have l3 := (rdBytes_len r2 256).1
  have l4 := rdInt_len r3
  have l5 := rdCount_len r4 8
  have l7 := (rdBytes_len r6 8192).1
  rw [e1] at l1
  rw [e2] at l2
  rw [e3] at l3
  rw [e4] at l4
  rw [e5] at l5
  rw [e7] at l7
  simp only at l1 l2 l3 l4 l5 l7 hsm
  have c1 := fun B g W hW => rdText_any B g ⟨b, 0⟩ 256 W hW hl (by omega)
  have c2 := fun B g W hW => rdInt_any B g r1 W hW (by omega)
  have c3 := fun B g W hW => rdText_any B g r2 256 W hW (by omega) (by omega)
  have c4 := fun B g W hW => rdInt_any B g r3 W hW (by omega)
  have c5 := fun B g W hW => rdCount_any B g r4 8 W hW (by omega) (by omega)
  have c7 := fun B g W hW (h6 : r6.b.length ≤ 140737488355328) => rdBytes_any B g r6 8192 W hW h6 (by omega)
  rw [e1] at c1
  rw [e2] at c2
  rw [e3] at c3
  rw [e4] at c4
  rw [e5] at c5
  rw [e7] at c7
  simp only at c1 c2 c3 c4 c5 c7
  have HD : Hid (decF b = if doneN r7 ≠ 0 ∨ txN ⟨xa, xs, xd, xf, xm, xg⟩ ≠ 0 ∨ 65536 < b.length then (emptyTx, 3) else (⟨xa, xs, xd, xf, xm, xg⟩, 0)) := Lib.hid (by rw [decF, hR])
  have E6 := Lib.hid e6
  have hn : n ≤ 8 := l5.2
  have hl4 : r4.b.length ≤ 140737488355328 := by omega
  have HSM := Lib.hid hsm
  obtain ⟨Av, cv, rfl⟩ := h.form
  clear hR e1 e2 e3 e4 e5 e6 e7 hsm h
  go_enter Tryz.func18, Tryz.ntmps18
  go_wp2_with fail
  refine cR.mono ?_
  rintro e w1 ⟨rfl, h1, hb1⟩
  have q1 := hba.trans (hb1.mono hba.size)
  have res1 := (hb1.block w.heap.size (by simp)).trans (heap_alloc_new w (.cells #[.string ⟨#[]⟩, .int .i64 0, .string ⟨#[]⟩, .int .i64 0, .slice none 0 0, .slice none 0 0] 29))
  have hgeq : (w.alloc (.cells #[.string ⟨#[]⟩, .int .i64 0, .string ⟨#[]⟩, .int .i64 0, .slice none 0 0, .slice none 0 0] 29)).heap.size = w.heap.size + 1 := World.size_alloc _ _
  rw [hgeq] at h1
  clear cR hba hb1 hgeq
  go_wp2_with fail
  have hgr : w.heap.size < w.heap.size + 1 := Nat.lt_succ_self _
  generalize hgg : w.heap.size + 1 = g at *
  refine (c1 _ _ _ h1).mono ?_
  rintro e w2 ⟨rfl, h2, hg2⟩
  have q2 := grownBelow q1 hg2 (by omega) q1.size
  have res2 := box_keepG res1 hg2 (by omega)
  go_wp2_with fail
  refine (c2 _ _ _ h2).mono ?_
  rintro e w3 ⟨rfl, h3, hg3⟩
  have q3 := grownBelow q2 hg3 (by omega) q2.size
  have res3 := box_keepG res2 hg3 (by omega)
  go_wp2_with fail
  refine (c3 _ _ _ h3).mono ?_
  rintro e w4 ⟨rfl, h4, hg4⟩
  have q4 := grownBelow q3 hg4 (by omega) q3.size
  have res4 := box_keepG res3 hg4 (by omega)
  go_wp2_with fail
  refine (c4 _ _ _ h4).mono ?_
  rintro e w5 ⟨rfl, h5, hg5⟩
  have q5 := grownBelow q4 hg5 (by omega) q4.size
  have res5 := box_keepG res4 hg5 (by omega)
  have hlt5 := h5.lt.2
  have st1 : DecSt g g w.heap.size w5.heap.size (w5.alloc (.cells #[.string (strOf xa), .int .i64 xs, .string (strOf xd), .int .i64 xf, .slice none 0 0, .slice none 0 0] 29)) xa xs xd xf (.slice none 0 0) (.slice none 0 0) r4 :=
    ⟨h5.keep (below_alloc _ _), hl4, heap_alloc_new w5 _, (heap_alloc_old w5 _ (Array.getElem?_eq_some_iff.1 res5).1).trans res5⟩
  have q6 := q5.alloc q5.size (.cells #[.string (strOf xa), .int .i64 xs, .string (strOf xd), .int .i64 xf, .slice none 0 0, .slice none 0 0] 29)
  have hxg : g < w5.heap.size := hlt5
  clear q1 q2 q3 q4 q5 res1 res2 res3 res4 res5 hg2 hg3 hg4 hg5 h1 h2 h3 h4 h5 hlt5
  go_wp2_with fail
  generalize w5.alloc (.cells #[.string (strOf xa), .int .i64 xs, .string (strOf xd), .int .i64 xf, .slice none 0 0, .slice none 0 0] 29) = V1 at *
  generalize hgxq : w5.heap.size = gx at *
  clear hgxq
  refine (c5 _ _ _ st1.rd).mono ?_
  rintro e w6 ⟨rfl, h6, hg6⟩
  have st2 := st1.reader (by omega) (by omega) h6 l5.1 hg6
  have q7 := grownBelow q6 hg6 (by omega) q6.size
  clear st1 h6 hg6 q6 c1 c2 c3 c4 c5
  obtain ⟨k0, k1, k2, k3, k4, k5, kf, hltx⟩ := st2.cells
  go_wp2_with fail
  go_loopg [20] n (fun k s wq => ∃ (i : Nat) (l : List MsgD) (A : Option Addr) (c : Nat) (ri : Rd), k + i = n ∧ s = .int .i64 (i : Int) ∧ Hid (rdMany rdMsg n r5 = (l ++ (rdMany rdMsg (n - i) ri).1, (rdMany rdMsg (n - i) ri).2)) ∧ Hid (l.length = i) ∧ DecSt g g w.heap.size gx wq xa xs xd xf (.slice A i c) (.slice none 0 0) ri ∧ OwnMsgs (gx + 1) wq (.slice A i c) l ∧ Below w.heap.size w wq)
  case atStart => exact ⟨0, [], none, 0, r5, by omega, rfl, Lib.hid (by simp), Lib.hid rfl, st2, OwnMsgs.nil_ _ _, q7⟩
  case round =>
    clear st2 k0 k1 k2 k3 k4 k5 kf hltx q7
    obtain ⟨i, l, A, c, ri, hi, rfl, HMn, HLn, st, ho, hq⟩ := hrel
    obtain ⟨k0, k1, k2, k3, k4, k5, kf, hltx⟩ := st.cells
    have hwq := hq.size
    by_cases hlt : i < n
    · have cX := get_any2 g g ri _ st.rd.drew st.len
      have HM2 : Hid (rdMany rdMsg n r5 = _) := Lib.hid (rdMany_step rdMsg hlt HMn.out)
      unfold GetPost2 at cX
      generalize rdMsg ri = F at *
      obtain ⟨x, rj⟩ := F
      simp only at cX
      obtain ⟨ms, ho, hml, hall⟩ := ho
      rw [HLn.out] at ho hml
      have HA := Lib.hid hall
      have HML := Lib.hid hml
      clear hall hml HMn
      have j0 : i + 1 ≤ maxLen := by unfold maxLen; omega
      have j1 : (i + 1) * 80 ≤ 140737488355328 := by omega
      go_wp2_with fail
      go_region_law (first
        | (go_simp; go_at_call 48; (refine cX.mono ?_); rintro e3 y3 ⟨P1, P2, P3, p1, p2, p3, rfl, h3, hlen, hg3, hom⟩; have hg3 := grown_undrew hg3; have st3 := st.reader (by omega) (by omega) h3 hlen hg3; have ho3 := own_keepG ho hg3 (by omega); have hom3 := OwnMsg.mono (B' := gx + 1) hom (by show gx + 1 ≤ wr.heap.size; omega); obtain ⟨d0, d1, d2, d3, d4, d5, df, dlt⟩ := st3.cells; have ow1 := ho3.alloc (.cells #[.int .i64 x.kind, .slice P1 x.texts.length p1, .slice P2 x.ints.length p2, .slice P3 x.data.length p3] 35); have rw1 : Row (y3.alloc (.cells #[.int .i64 x.kind, .slice P1 x.texts.length p1, .slice P2 x.ints.length p2, .slice P3 x.data.length p3] 35)) (.slice (some ⟨y3.heap.size, 0, none⟩) 1 1) 4 1 (msgCells ⟨x.kind, .slice P1 x.texts.length p1, .slice P2 x.ints.length p2, .slice P3 x.data.length p3⟩) := Row.of_own (own_block (base := y3.heap.size) (heap_alloc_new y3 _) (Nat.le_refl _) rfl (by decide)); have bw1 : gx + 1 ≤ (y3.alloc (.cells #[.int .i64 x.kind, .slice P1 x.texts.length p1, .slice P2 x.ints.length p2, .slice P3 x.data.length p3] 35)).heap.size := (by rw [World.size_alloc]; omega))
        | (refine step_append_row rfl _ _ 26 rfl (gx + 1) 35 i1 (.agg #[.int .i64 0, .slice none 0 0, .slice none 0 0, .slice none 0 0]) 4 80 Tryz.underlying26 hi1 hz1 hs1 hy1 rfl (by decide) (.slice A i c) i (msgsCells ms) rfl ow1 (.slice (some ⟨y3.heap.size, 0, none⟩) 1 1) 1 (msgCells ⟨x.kind, .slice P1 x.texts.length p1, .slice P2 x.ints.length p2, .slice P3 x.data.length p3⟩) rfl rw1 (by simp [msgCells, Value.oneCell']) j0 j1 bw1 ?_; intro A1 c1' y4 hown hgrow hat; have hy4 := hgrow.size; rw [World.size_alloc] at hy4; have hb4 := (hgrow.block gx (by rw [World.size_alloc]; omega) (fun e => by have := (ow1.lt gx e.symm).1; omega)).trans ((heap_alloc_old y3 _ dlt).trans st3.box); have f1 := Lib.cell_of_heap hb4 4; have ff := Lib.frozen_of_heap hb4 4; have HB4 := Lib.hid hb4; clear hb4))
      all_goals
        go_wp2_with fail
        go_roundg (n - (i + 1))
        case measure => omega
        case rel =>
          refine ⟨i + 1, l ++ [x], A1, c1', rj, by omega, by go_num, HM2, Lib.hid (by rw [List.length_append, HLn.out]; rfl), DecSt.push st3 (by omega) (by omega) (by omega) (by omega) (by omega) (by omega) (by decide) ow1 hgrow rfl, (OwnMsgs.push HLn.out HML.out (fun j p m hp hm => ((HA.out j p m hp hm).keepG hg3 (by omega)).below (below_alloc _ _)) (hom3.below (below_alloc _ _)) ow1 hgrow hown).stored (Nat.lt_succ_self _), ?_⟩
          have hs3 := hg3.size
          refine Below.setCell ((((grownBelow hq hg3 (by omega) hwq).alloc (by omega) _).grown hgrow (by rw [World.size_alloc]; omega) (fun k hk => by have := (ow1.lt k hk).1; omega))) (by show w.heap.size ≤ gx; omega) _
    · have hst := rdMany_stop rdMsg (Nat.le_of_not_lt hlt) HMn.out
      rw [E6.out] at hst
      obtain ⟨rfl, rfl⟩ := Prod.mk.inj hst
      obtain rfl : n = i := by omega
      clear hst HMn hlt
      have cX := c7 _ _ _ st.rd st.len
      go_wp2_with fail
      refine cX.mono ?_
      rintro e w7 ⟨Ag, cg, rfl, h7, hg7, ho7⟩
      have st7 := st.reader (by omega) (by omega) h7 l7 hg7
      have ho7' := ho.keepG hg7 (by omega)
      have q7 := grownBelow hq hg7 (by omega) hwq
      have hs7 := hg7.size
      clear k0 k1 k2 k3 k4 k5 kf
      obtain ⟨k0, k1, k2, k3, k4, k5, kf, hltx7⟩ := st7.cells
      go_wp2_with fail
      have rV := st7.rd.stored (i := 5) (u := .slice Ag xg.length cg) st7.box (by omega) (by omega) (by decide)
      have bV := box_stored (i := 5) (u := .slice Ag xg.length cg) st7.box rfl
      have eV := (Below.heap_setCell w7 ⟨gx, 5, none⟩ (.slice Ag xg.length cg) w.heap.size (by simp; omega)).trans st7.res
      have tV : TxAt (w7.setCell ⟨gx, 5, none⟩ (.slice Ag xg.length cg)) (.agg #[.string (strOf xa), .int .i64 xs, .string (strOf xd), .int .i64 xf, .slice A n c, .slice Ag xg.length cg]) ⟨xa, xs, xd, xf, xm, xg⟩ := ⟨_, _, rfl, (ho7'.stored (Nat.lt_succ_self _)).at, Row.of_own (own_stored ho7 hltx)⟩
      have qV := q7.setCell (p := ⟨gx, 5, none⟩) (by show w.heap.size ≤ gx; omega) (.slice Ag xg.length cg)
      have hl7 : r7.b.length ≤ 140737488355328 := Nat.le_trans l7 st.len
      have oV := ho7'.stored (k := gx) (i := 5) (u := .slice Ag xg.length cg) (Nat.lt_succ_self _)
      have sV := own_stored (k := gx) (i := 5) (u := .slice Ag xg.length cg) (World.ownsRow.mono (base' := gx + 1) ho7 hltx) (Nat.lt_succ_self _)
      clear st st7 ho ho7 ho7' hq q7 hg7 k0 k1 k2 k3 k4 k5 kf hltx hltx7 h7 cX c7
      generalize w7.setCell ⟨gx, 5, none⟩ (.slice Ag xg.length cg) = V at *
      have cD := rdone_any g g r7 V rV hl7
      unfold ErrPost at cD
      have OV := Lib.hid oV
      have SV := Lib.hid sV
      clear oV sV
      have TV := Lib.hid tV
      have BV := Lib.hid bV
      have EV := Lib.hid eV
      clear tV bV eV
      have cells6 : ∀ W, Below V.heap.size V W → (W.cell? ⟨gx, 0, none⟩ = some (.string (strOf xa)) ∧ W.cell? ⟨gx, 1, none⟩ = some (.int .i64 xs) ∧ W.cell? ⟨gx, 2, none⟩ = some (.string (strOf xd)) ∧ W.cell? ⟨gx, 3, none⟩ = some (.int .i64 xf) ∧ W.cell? ⟨gx, 4, none⟩ = some (.slice A n c) ∧ W.cell? ⟨gx, 5, none⟩ = some (.slice Ag xg.length cg)) ∧ (W.cell? ⟨w.heap.size, 0, none⟩ = some (.string ⟨#[]⟩) ∧ W.cell? ⟨w.heap.size, 1, none⟩ = some (.int .i64 0) ∧ W.cell? ⟨w.heap.size, 2, none⟩ = some (.string ⟨#[]⟩) ∧ W.cell? ⟨w.heap.size, 3, none⟩ = some (.int .i64 0) ∧ W.cell? ⟨w.heap.size, 4, none⟩ = some (.slice none 0 0) ∧ W.cell? ⟨w.heap.size, 5, none⟩ = some (.slice none 0 0)) ∧ (∀ o, W.frozen? ⟨w.heap.size, o, none⟩ = false) := fun W hW => by
        have b1 := (hW.block gx (Array.getElem?_eq_some_iff.1 BV.out).1).trans BV.out
        have b2 := (hW.block w.heap.size (Array.getElem?_eq_some_iff.1 EV.out).1).trans EV.out
        refine ⟨⟨?_, ?_, ?_, ?_, ?_, ?_⟩, ⟨?_, ?_, ?_, ?_, ?_, ?_⟩, fun o => Lib.frozen_of_heap b2 o⟩ <;> first | exact (cell_of_block b1) | exact (cell_of_block b2)
      have CE := Lib.hid cells6
      clear cells6
      refine cD.mono ?_
      rintro e w8 ⟨ev, rfl, hE, hb8⟩
      have q8 := qV.trans (hb8.mono qV.size)
      obtain ⟨⟨k0, k1, k2, k3, k4, k5⟩, ⟨z0, z1, z2, z3, z4, z5⟩, zf⟩ := CE.out _ hb8
      have hzl := (Array.getElem?_eq_some_iff.1 EV.out).1
      have hz8 : w.heap.size < w8.heap.size := Nat.lt_of_lt_of_le hzl hb8.size
      by_cases h0 : doneN r7 = 0
      · rw [h0] at hE HD
        obtain rfl := hE.zero
        have cK := txCheck_any _ _ w8 (TV.out.keep hb8) HSM.out (Utf8Tabs_below hT q8) (hM.keep q8)
        unfold ErrPost at cK
        go_wp2_with fail
        refine cK.mono ?_
        rintro e w9 ⟨ev9, rfl, hE9, hb9⟩
        have hb89 := hb8.trans (hb9.mono hb8.size)
        have q9 := q8.trans (hb9.mono q8.size)
        clear k0 k1 k2 k3 k4 k5 z0 z1 z2 z3 z4 z5 zf
        obtain ⟨⟨k0, k1, k2, k3, k4, k5⟩, ⟨z0, z1, z2, z3, z4, z5⟩, zf⟩ := CE.out _ hb89
        have hz9 : w.heap.size < w9.heap.size := Nat.lt_of_lt_of_le hzl hb89.size
        by_cases h1 : txN ⟨xa, xs, xd, xf, xm, xg⟩ = 0
        · rw [h1] at hE9 HD
          obtain rfl := hE9.zero
          by_cases h2 : 65536 < b.length
          · have HR : Hid (decF b = (emptyTx, 3)) := Lib.hid (by rw [HD.out, if_pos (.inr (.inr h2))])
            have p2 : (65536 : Int) < (b.length : Int) := by omega
            clear h1 h2 hE hE9 cK cD
            go_wp2_with fail
            refine (txFault_any _ _ _).mono ?_
            rintro e w10 ⟨rfl, rfl⟩
            go_wp2_with fail
            refine bodyPost_ret (v := .tuple #[.agg #[.string ⟨#[]⟩, .int .i64 0, .string ⟨#[]⟩, .int .i64 0, .slice none 0 0, .slice none 0 0], .iface 118 (.pointer (some ⟨w9.heap.size, 0, none⟩))]) (by simp [results, Tryz.results18, go_sem, z0, z1, z2, z3, z4, z5, hz9]) rfl ?_
            refine ⟨_, _, rfl, by rw [HR.out]; exact TxAt.empty_ _, ?_, ?_⟩
            · rw [HR.out]
              exact IsErr.fault (by decide) rfl (by simp [World.setCell])
            · exact Below.alloc ((((((q9.setCell (p := ⟨w.heap.size, 0, none⟩) (Nat.le_refl _) _).setCell (p := ⟨w.heap.size, 1, none⟩) (Nat.le_refl _) _).setCell (p := ⟨w.heap.size, 2, none⟩) (Nat.le_refl _) _).setCell (p := ⟨w.heap.size, 3, none⟩) (Nat.le_refl _) _).setCell (p := ⟨w.heap.size, 4, none⟩) (Nat.le_refl _) _).setCell (p := ⟨w.heap.size, 5, none⟩) (Nat.le_refl _) _) (by have := (q9).size; simpa [World.setCell] using this) _
          · have HR : Hid (decF b = (⟨xa, xs, xd, xf, xm, xg⟩, 0)) := Lib.hid (by rw [HD.out, if_neg (by simp; omega)])
            have p2 : ¬((65536 : Int) < (b.length : Int)) := by omega
            clear h1 h2 hE hE9 cK cD
            go_wp2_with fail
            refine bodyPost_ret (v := .tuple #[.agg #[.string (strOf xa), .int .i64 xs, .string (strOf xd), .int .i64 xf, .slice A n c, .slice Ag xg.length cg], .nilIface]) (by simp [results, Tryz.results18, go_sem, z0, z1, z2, z3, z4, z5]) rfl ?_
            have ho9 := ((((((OV.out.below hb89).stored (k := w.heap.size) (i := 0) (u := .string (strOf xa)) (by omega)).stored (k := w.heap.size) (i := 1) (u := .int .i64 xs) (by omega)).stored (k := w.heap.size) (i := 2) (u := .string (strOf xd)) (by omega)).stored (k := w.heap.size) (i := 3) (u := .int .i64 xf) (by omega)).stored (k := w.heap.size) (i := 4) (u := .slice A n c) (by omega)).stored (k := w.heap.size) (i := 5) (u := .slice Ag xg.length cg) (by omega)
            have hs9 := own_stored (k := w.heap.size) (i := 5) (u := .slice Ag xg.length cg) (own_stored (k := w.heap.size) (i := 4) (u := .slice A n c) (own_stored (k := w.heap.size) (i := 3) (u := .int .i64 xf) (own_stored (k := w.heap.size) (i := 2) (u := .string (strOf xd)) (own_stored (k := w.heap.size) (i := 1) (u := .int .i64 xs) (own_stored (k := w.heap.size) (i := 0) (u := .string (strOf xa)) (own_belowW SV.out hb89) (by omega)) (by omega)) (by omega)) (by omega)) (by omega)) (by omega)
            refine ⟨_, _, rfl, ?_, by rw [HR.out]; exact IsErr.nil_ _, ?_⟩
            · rw [HR.out]
              exact ⟨_, _, rfl, ho9.at, Row.of_own hs9⟩
            · repeat (first | exact q9 | refine Below.setCell ?_ (by simp) _)
        · obtain ⟨tt, yy, rfl⟩ := hE9.iface h1
          have HR : Hid (decF b = (emptyTx, 3)) := Lib.hid (by rw [HD.out, if_pos (.inr (.inl h1))])
          clear h1 hE hE9 cK cD
          go_wp2_with fail
          refine (txFault_any _ _ _).mono ?_
          rintro e w10 ⟨rfl, rfl⟩
          go_wp2_with fail
          refine bodyPost_ret (v := .tuple #[.agg #[.string ⟨#[]⟩, .int .i64 0, .string ⟨#[]⟩, .int .i64 0, .slice none 0 0, .slice none 0 0], .iface 118 (.pointer (some ⟨w9.heap.size, 0, none⟩))]) (by simp [results, Tryz.results18, go_sem, z0, z1, z2, z3, z4, z5, hz9]) rfl ?_
          refine ⟨_, _, rfl, by rw [HR.out]; exact TxAt.empty_ _, ?_, ?_⟩
          · rw [HR.out]
            exact IsErr.fault (by decide) rfl (by simp [World.setCell])
          · exact Below.alloc ((((((q9.setCell (p := ⟨w.heap.size, 0, none⟩) (Nat.le_refl _) _).setCell (p := ⟨w.heap.size, 1, none⟩) (Nat.le_refl _) _).setCell (p := ⟨w.heap.size, 2, none⟩) (Nat.le_refl _) _).setCell (p := ⟨w.heap.size, 3, none⟩) (Nat.le_refl _) _).setCell (p := ⟨w.heap.size, 4, none⟩) (Nat.le_refl _) _).setCell (p := ⟨w.heap.size, 5, none⟩) (Nat.le_refl _) _) (by have := (q9).size; simpa [World.setCell] using this) _
      · obtain ⟨tt, yy, rfl⟩ := hE.iface h0
        have HR : Hid (decF b = (emptyTx, 3)) := Lib.hid (by rw [HD.out, if_pos (.inl h0)])
        clear h0 hE cD
        go_wp2_with fail
        refine (txFault_any _ _ _).mono ?_
        rintro e w10 ⟨rfl, rfl⟩
        go_wp2_with fail
        refine bodyPost_ret (v := .tuple #[.agg #[.string ⟨#[]⟩, .int .i64 0, .string ⟨#[]⟩, .int .i64 0, .slice none 0 0, .slice none 0 0], .iface 118 (.pointer (some ⟨w8.heap.size, 0, none⟩))]) (by simp [results, Tryz.results18, go_sem, z0, z1, z2, z3, z4, z5, hz8]) rfl ?_
        refine ⟨_, _, rfl, by rw [HR.out]; exact TxAt.empty_ _, ?_, ?_⟩
        · rw [HR.out]
          exact IsErr.fault (by decide) rfl (by simp [World.setCell])
        · exact Below.alloc ((((((q8.setCell (p := ⟨w.heap.size, 0, none⟩) (Nat.le_refl _) _).setCell (p := ⟨w.heap.size, 1, none⟩) (Nat.le_refl _) _).setCell (p := ⟨w.heap.size, 2, none⟩) (Nat.le_refl _) _).setCell (p := ⟨w.heap.size, 3, none⟩) (Nat.le_refl _) _).setCell (p := ⟨w.heap.size, 4, none⟩) (Nat.le_refl _) _).setCell (p := ⟨w.heap.size, 5, none⟩) (Nat.le_refl _) _) (by have := (q8).size; simpa [World.setCell] using this) _
end Go.Proofs.YteajgnoimbdkbaaGreatDoor

/- The law's same, at two transactions that read alike. -/
import Derived.Test.YteajgnoimbdkbaaDoorPut
import Derived.Test.YteajgnoimbdkbaaDoorRdText
import Derived.Deep.DeepCutAuto
import Derived.Deep.QuietTactic
import Derived.BigQuiet
import Derived.BigRegion
namespace Go.Proofs.YteajgnoimbdkbaaDoor
open Go.RowKit

theorem two_boxes (Y : World) (a b : Obj) : ((Y.alloc a).alloc b).drew.heap[Y.heap.size]? = some a ∧ ((Y.alloc a).alloc b).drew.heap[Y.heap.size + 1]? = some b := by
  refine ⟨?_, ?_⟩
  · show ((Y.alloc a).alloc b).heap[Y.heap.size]? = some a
    rw [heap_alloc_old _ _ (by simp), heap_alloc_new]
  · have := heap_alloc_new (Y.alloc a) b
    rw [World.size_alloc] at this
    exact this

set_option maxRecDepth 100000 in
set_option maxHeartbeats 8000000 in
theorem txSame_any (v1 v2 : Value) (x : TxD) (w : World) (h : TxAt w v1 x) (h' : TxAt w v2 x) (hs : TxSmall x) : Calls Tryd.prog 7 #[v1, v2] w (TruePost w) := by
  obtain ⟨ms, sg, rfl, h1, h2⟩ := h
  obtain ⟨ms', sg', rfl, h1', h2'⟩ := h'
  obtain ⟨s1, s2, s3, s4, s5⟩ := hs
  obtain ⟨A1, c1, rfl⟩ := h1.form
  obtain ⟨A2, c2, rfl⟩ := h2.form
  obtain ⟨A3, c3, rfl⟩ := h1'.form
  obtain ⟨A4, c4, rfl⟩ := h2'.form
  unfold txV
  have hb2 : ∀ o1 o2, Below w.heap.size w ((w.alloc o1).alloc o2) := fun o1 o2 => ((Below.refl _ _).alloc (Nat.le_refl _) _).alloc (by simp) _
  have v2 := fun o1 o2 => conv_text (h2.keep (hb2 o1 o2))
  have v4 := fun o1 o2 => conv_text (h2'.keep (hb2 o1 o2))
  have qb := hb2 (.cells #[.string (strOf x.account), .int .i64 x.seq, .string (strOf x.denom), .int .i64 x.amount, .slice A1 x.msgs.length c1, .slice A2 x.sign.length c2] 34) (.cells #[.string (strOf x.account), .int .i64 x.seq, .string (strOf x.denom), .int .i64 x.amount, .slice A3 x.msgs.length c3, .slice A4 x.sign.length c4] 27)
  have b0 : ((w.alloc (.cells #[.string (strOf x.account), .int .i64 x.seq, .string (strOf x.denom), .int .i64 x.amount, .slice A1 x.msgs.length c1, .slice A2 x.sign.length c2] 34)).alloc (.cells #[.string (strOf x.account), .int .i64 x.seq, .string (strOf x.denom), .int .i64 x.amount, .slice A3 x.msgs.length c3, .slice A4 x.sign.length c4] 27)).heap[w.heap.size]? = some (.cells #[.string (strOf x.account), .int .i64 x.seq, .string (strOf x.denom), .int .i64 x.amount, .slice A1 x.msgs.length c1, .slice A2 x.sign.length c2] 34 (0, 0)) := by rw [heap_alloc_old _ _ (by simp), heap_alloc_new]
  have b1 : ((w.alloc (.cells #[.string (strOf x.account), .int .i64 x.seq, .string (strOf x.denom), .int .i64 x.amount, .slice A1 x.msgs.length c1, .slice A2 x.sign.length c2] 34)).alloc (.cells #[.string (strOf x.account), .int .i64 x.seq, .string (strOf x.denom), .int .i64 x.amount, .slice A3 x.msgs.length c3, .slice A4 x.sign.length c4] 27)).heap[w.heap.size + 1]? = some (.cells #[.string (strOf x.account), .int .i64 x.seq, .string (strOf x.denom), .int .i64 x.amount, .slice A3 x.msgs.length c3, .slice A4 x.sign.length c4] 27 (0, 0)) := by
    have := heap_alloc_new (w.alloc (.cells #[.string (strOf x.account), .int .i64 x.seq, .string (strOf x.denom), .int .i64 x.amount, .slice A1 x.msgs.length c1, .slice A2 x.sign.length c2] 34)) (.cells #[.string (strOf x.account), .int .i64 x.seq, .string (strOf x.denom), .int .i64 x.amount, .slice A3 x.msgs.length c3, .slice A4 x.sign.length c4] 27)
    rwa [World.size_alloc] at this
  go_enter Tryd.func7, Tryd.ntmps7
  go_wp2_with fail
  clear v2 v4 hb2
  generalize (w.alloc (.cells #[.string (strOf x.account), .int .i64 x.seq, .string (strOf x.denom), .int .i64 x.amount, .slice A1 x.msgs.length c1, .slice A2 x.sign.length c2] 34)).alloc (.cells #[.string (strOf x.account), .int .i64 x.seq, .string (strOf x.denom), .int .i64 x.amount, .slice A3 x.msgs.length c3, .slice A4 x.sign.length c4] 27) = W2 at *
  have hz0 := (Array.getElem?_eq_some_iff.1 b0).1
  have hz1 := (Array.getElem?_eq_some_iff.1 b1).1
  go_loopg [5] x.msgs.length (fun k s5 wq => ∃ i : Nat, k + i = x.msgs.length ∧ s5 = .int .i64 (i : Int) ∧ Below W2.heap.size W2 wq)
  case atStart => exact ⟨0, by omega, rfl, Below.refl _ _⟩
  case round =>
    obtain ⟨i, hi, rfl, hq⟩ := hrel
    rename World => Y
    have hqw := qb.trans (hq.mono qb.size)
    have c4a := (hq.cell (p := ⟨w.heap.size, 4, none⟩) hz0).trans (Lib.cell_of_heap b0 4)
    have c4b := (hq.cell (p := ⟨w.heap.size + 1, 4, none⟩) hz1).trans (Lib.cell_of_heap b1 4)
    have hY := hq.size
    have hzy0 : w.heap.size < Y.heap.size := Nat.lt_of_lt_of_le hz0 hY
    have hzy1 : w.heap.size + 1 < Y.heap.size := Nat.lt_of_lt_of_le hz1 hY
    by_cases hlt : i < x.msgs.length
    · have hx : x.msgs[i]? = some x.msgs[i] := List.getElem?_eq_getElem hlt
      generalize x.msgs[i] = m at *
      have hsm := s5 m (List.mem_of_getElem? hx)
      have i0 : (0 : Int) ≤ (i : Int) := by omega
      have i1 : (i : Int) < (x.msgs.length : Int) := by omega
      obtain ⟨bb, o, P1, P2, P3, p1, p2, p3, rfl, m0, m1, m2, m3, hat⟩ := (h1.keep hqw).at hx
      obtain ⟨bc, oc, Q1, Q2, Q3, e1, e2, e3, rfl, n0, n1, n2, n3, hat'⟩ := (h1'.keep hqw).at hx
      clear hx
      have hbb := cell_lt m0
      have hbc := cell_lt n0
      go_upto_region 6 with fail
      go_cut [6, 7] (fun s6 s7 wx => ∃ gm gn : Nat, s6 = .pointer (some ⟨gm, 0, none⟩) ∧ s7 = .pointer (some ⟨gn, 0, none⟩) ∧ Hid (wx.heap[gm]? = some (.cells #[.int .i64 m.kind, .slice P1 m.texts.length p1, .slice P2 m.ints.length p2, .slice P3 m.data.length p3] 55 (0, 0))) ∧ Hid (wx.heap[gn]? = some (.cells #[.int .i64 m.kind, .slice Q1 m.texts.length e1, .slice Q2 m.ints.length e2, .slice Q3 m.data.length e3] 54 (0, 0))) ∧ Below Y.heap.size Y wx)
      case first =>
        go_region
        · go_wp2_with fail
          go_meet
          obtain ⟨x1, x2⟩ := two_boxes Y (.cells #[.int .i64 m.kind, .slice P1 m.texts.length p1, .slice P2 m.ints.length p2, .slice P3 m.data.length p3] 55) (.cells #[.int .i64 m.kind, .slice Q1 m.texts.length e1, .slice Q2 m.ints.length e2, .slice Q3 m.data.length e3] 54)
          exact ⟨_, _, rfl, rfl, Lib.hid x1, Lib.hid x2, (((Below.refl _ Y).alloc (Nat.le_refl _) _).alloc (by simp) _).drew⟩
        · go_wp2_with fail
          go_meet
          obtain ⟨x1, x2⟩ := two_boxes Y (.cells #[.int .i64 m.kind, .slice Q1 m.texts.length e1, .slice Q2 m.ints.length e2, .slice Q3 m.data.length e3] 54) (.cells #[.int .i64 m.kind, .slice P1 m.texts.length p1, .slice P2 m.ints.length p2, .slice P3 m.data.length p3] 55)
          exact ⟨_, _, rfl, rfl, Lib.hid x2, Lib.hid x1, (((Below.refl _ Y).alloc (Nat.le_refl _) _).alloc (by simp) _).drew⟩
      case rest =>
        obtain ⟨gm, gn, rfl, rfl, BM, BN, hX⟩ := hcut
        obtain ⟨-, a1, a2, a3⟩ := hat
        obtain ⟨-, a1', a2', a3'⟩ := hat'
        obtain ⟨t1, t2, t3, t4, t5⟩ := hsm
        have hgm := (Array.getElem?_eq_some_iff.1 BM.out).1
        have hgn := (Array.getElem?_eq_some_iff.1 BN.out).1
        have km0 := Lib.cell_of_heap BM.out 0
        have km1 := Lib.cell_of_heap BM.out 1
        have km2 := Lib.cell_of_heap BM.out 2
        have km3 := Lib.cell_of_heap BM.out 3
        have kn0 := Lib.cell_of_heap BN.out 0
        have kn1 := Lib.cell_of_heap BN.out 1
        have kn2 := Lib.cell_of_heap BN.out 2
        have kn3 := Lib.cell_of_heap BN.out 3
        clear m0 m1 m2 m3 n0 n1 n2 n3 c4a c4b
        go_wp2_with fail
        clear km0 km1 km2 km3 kn0 kn1 kn2 kn3
        go_loopg [8] m.texts.length (fun k s8 wq => ∃ j : Nat, k + j = m.texts.length ∧ s8 = .int .i64 (j : Int) ∧ Below wc.heap.size wc wq)
        case atStart => exact ⟨0, by omega, rfl, Below.refl _ _⟩
        case round =>
          obtain ⟨j, hj, rfl, hB⟩ := hrel
          have hYr := hX.trans (hB.mono hX.size)
          have bm := (hB.block gm hgm).trans BM.out
          have bn := (hB.block gn hgn).trans BN.out
          have r0 : (0 : Int) ≤ (j : Int) := by omega
          have km1 := Lib.cell_of_heap bm 1
          have km2 := Lib.cell_of_heap bm 2
          have km3 := Lib.cell_of_heap bm 3
          have kn1 := Lib.cell_of_heap bn 1
          have kn2 := Lib.cell_of_heap bn 2
          have kn3 := Lib.cell_of_heap bn 3
          clear bm bn
          by_cases hjl : j < m.texts.length
          · have hx : m.texts[j]? = some m.texts[j] := List.getElem?_eq_getElem hjl
            generalize m.texts[j] = t at *
            have r1 : (j : Int) < (m.texts.length : Int) := by omega
            obtain ⟨b3, o3, rfl, u0⟩ := (a1.keep hYr).at hx
            obtain ⟨b4, o4, rfl, u1⟩ := (a1'.keep hYr).at hx
            clear hx
            go_wp2_with fail
            go_quiet (fail)
            go_wp2
            go_roundg (m.texts.length - (j + 1))
            case measure => omega
            case rel => exact ⟨j + 1, by omega, by go_num, below_drewN hB _⟩
          · go_wp2_with fail
            go_loopg [9] m.ints.length (fun k s8 wq => ∃ j : Nat, k + j = m.ints.length ∧ s8 = .int .i64 (j : Int) ∧ Below wc.heap.size wc wq)
            case atStart => exact ⟨0, by omega, rfl, hB⟩
            case round =>
              obtain ⟨j, hj, rfl, hB⟩ := hrel
              have hYr := hX.trans (hB.mono hX.size)
              have bm := (hB.block gm hgm).trans BM.out
              have bn := (hB.block gn hgn).trans BN.out
              have r0 : (0 : Int) ≤ (j : Int) := by omega
              have km1 := Lib.cell_of_heap bm 1
              have km2 := Lib.cell_of_heap bm 2
              have km3 := Lib.cell_of_heap bm 3
              have kn1 := Lib.cell_of_heap bn 1
              have kn2 := Lib.cell_of_heap bn 2
              have kn3 := Lib.cell_of_heap bn 3
              clear bm bn
              by_cases hjl : j < m.ints.length
              · have hx : m.ints[j]? = some m.ints[j] := List.getElem?_eq_getElem hjl
                generalize m.ints[j] = t at *
                have r1 : (j : Int) < (m.ints.length : Int) := by omega
                obtain ⟨b3, o3, rfl, u0⟩ := (a2.keep hYr).at hx
                obtain ⟨b4, o4, rfl, u1⟩ := (a2'.keep hYr).at hx
                clear hx
                go_wp2_with fail
                go_quiet (fail)
                go_wp2
                go_roundg (m.ints.length - (j + 1))
                case measure => omega
                case rel => exact ⟨j + 1, by omega, by go_num, below_drewN hB _⟩
              · go_wp2_with fail
                go_loopg [10] m.data.length (fun k s8 wq => ∃ j : Nat, k + j = m.data.length ∧ s8 = .int .i64 (j : Int) ∧ Below wc.heap.size wc wq)
                case atStart => exact ⟨0, by omega, rfl, hB⟩
                case round =>
                  obtain ⟨j, hj, rfl, hB⟩ := hrel
                  have hYr := hX.trans (hB.mono hX.size)
                  have bm := (hB.block gm hgm).trans BM.out
                  have bn := (hB.block gn hgn).trans BN.out
                  have r0 : (0 : Int) ≤ (j : Int) := by omega
                  have km1 := Lib.cell_of_heap bm 1
                  have km2 := Lib.cell_of_heap bm 2
                  have km3 := Lib.cell_of_heap bm 3
                  have kn1 := Lib.cell_of_heap bn 1
                  have kn2 := Lib.cell_of_heap bn 2
                  have kn3 := Lib.cell_of_heap bn 3
                  clear bm bn
                  by_cases hjl : j < m.data.length
                  · have hx : m.data[j]? = some m.data[j] := List.getElem?_eq_getElem hjl
                    generalize m.data[j] = t at *
                    have r1 : (j : Int) < (m.data.length : Int) := by omega
                    obtain ⟨b3, o3, Ad, cd, rfl, u0, hbt⟩ := (a3.keep hYr).at hx
                    obtain ⟨b4, o4, Ae, ce, rfl, u1, hbt'⟩ := (a3'.keep hYr).at hx
                    have hv1 := conv_text hbt
                    have hv2 := conv_text hbt'
                    have hv3 := conv_text (hbt.keep (Below.refl wr.heap.size wr).drew)
                    have hv4 := conv_text (hbt'.keep (Below.refl wr.heap.size wr).drew)
                    clear hx
                    go_wp2_with fail
                    go_region
                    go_wp2
                    go_roundg (m.data.length - (j + 1))
                    case measure => omega
                    case rel => exact ⟨j + 1, by omega, by go_num, hB.drew⟩
                  · go_wp2_with fail
                    go_roundg (x.msgs.length - (i + 1))
                    case measure => omega
                    case rel => exact ⟨i + 1, by omega, by go_num, hq.trans (hYr.mono hq.size)⟩
    · go_wp2_with fail
      go_ret
      exact ⟨rfl, hqw⟩
end Go.Proofs.YteajgnoimbdkbaaDoor

/- The law's give: a transaction with lists of its own. -/
import Derived.Test.YteajgnoimbdkbaaDoorOwnMsgs
import Derived.Deep.DeepCutAuto
namespace Go.Proofs.YteajgnoimbdkbaaDoor
open Go.RowKit

/-- What give hands on: the signature in a row of its own that lies below all else. -/
def GivePost (x : TxD) (w : World) (e : Ending) (w' : World) : Prop := ∃ A1 c1 A2 c2 B2, e = .returned (txV x (.slice A1 x.msgs.length c1) (.slice A2 x.sign.length c2)) ∧ OwnMsgs B2 w' (.slice A1 x.msgs.length c1) x.msgs ∧ w'.ownsRow w.heap.size 5 1 (.slice A2 x.sign.length c2) x.sign.length (cellsL x.sign) ∧ (∀ k, (Value.slice A2 x.sign.length c2).ownBlock = some k → k < B2) ∧ w.heap.size ≤ B2 ∧ Below w.heap.size w w'

/-- Where give stands: the boxes of what came in, of the result and of what is under way. -/
structure GvSt (gb : Nat) (x : TxD) (v1 v2 ms sg : Value) (w : World) : Prop where
  b0 : w.heap[gb]? = some (.cells #[.string (strOf x.account), .int .i64 x.seq, .string (strOf x.denom), .int .i64 x.amount, v1, v2] 27 (0, 0))
  b1 : w.heap[gb + 1]? = some (.cells #[.string ⟨#[]⟩, .int .i64 0, .string ⟨#[]⟩, .int .i64 0, .slice none 0 0, .slice none 0 0] 34 (0, 0))
  b2 : w.heap[gb + 2]? = some (.cells #[.string (strOf x.account), .int .i64 x.seq, .string (strOf x.denom), .int .i64 x.amount, ms, sg] 34 (0, 0))
theorem GvSt.below {gb : Nat} {x : TxD} {v1 v2 ms sg : Value} {w w' : World} (h : GvSt gb x v1 v2 ms sg w) (hb : Below w.heap.size w w') : GvSt gb x v1 v2 ms sg w' :=
  ⟨(hb.block _ (Array.getElem?_eq_some_iff.1 h.b0).1).trans h.b0, (hb.block _ (Array.getElem?_eq_some_iff.1 h.b1).1).trans h.b1, (hb.block _ (Array.getElem?_eq_some_iff.1 h.b2).1).trans h.b2⟩

set_option maxRecDepth 100000 in
set_option maxHeartbeats 8000000 in
theorem txGive_any (v : Value) (x : TxD) (w : World) (h : TxAt w v x) (hs : TxSmall x) : Calls Tryd.prog 5 #[v] w (GivePost x w) := by
  obtain ⟨j0, hj0, hz0, hs0, hy0⟩ := info_parts infoU8w
  obtain ⟨j1, hj1, hz1, hs1, hy1⟩ := info_parts infoStrT
  obtain ⟨j2, hj2, hz2, hs2, hy2⟩ := info_parts infoIntT
  obtain ⟨j3, hj3, hz3, hs3, hy3⟩ := info_parts infoBtsT
  obtain ⟨j4, hj4, hz4, hs4, hy4⟩ := info_parts infoMsgT
  obtain ⟨ms, sg, rfl, h1, h2⟩ := h
  obtain ⟨s1, s2, s3, s4, s5⟩ := hs
  obtain ⟨A1, c1, rfl⟩ := h1.form
  obtain ⟨A2, c2, rfl⟩ := h2.form
  unfold txV
  have hb3 : ∀ o1 o2 o3, Below w.heap.size w (((w.alloc o1).alloc o2).alloc o3) := fun o1 o2 o3 => (((Below.refl _ _).alloc (Nat.le_refl _) _).alloc (by simp) _).alloc (by simp <;> omega) _
  have hr3 := fun o1 o2 o3 => h2.keep (hb3 o1 o2 o3)
  have hbx : ∀ o1 o2 o3, (((w.alloc o1).alloc o2).alloc o3).heap[w.heap.size]? = some o1 ∧ (((w.alloc o1).alloc o2).alloc o3).heap[w.heap.size + 1]? = some o2 ∧ (((w.alloc o1).alloc o2).alloc o3).heap[w.heap.size + 2]? = some o3 := fun o1 o2 o3 => by
    refine ⟨?_, ?_, ?_⟩
    · rw [heap_alloc_old _ _ (by simp; omega), heap_alloc_old _ _ (by simp), heap_alloc_new]
    · rw [heap_alloc_old _ _ (by simp)]
      have := heap_alloc_new (w.alloc o1) o2
      rwa [World.size_alloc] at this
    · have := heap_alloc_new ((w.alloc o1).alloc o2) o3
      rwa [World.size_alloc, World.size_alloc] at this
  have j5 : 0 + x.sign.length ≤ maxLen := by unfold maxLen; omega
  have j6 : (0 + x.sign.length) * 1 ≤ 140737488355328 := by omega
  have HX := Lib.hid hbx
  have HB := Lib.hid hb3
  clear hbx h2 hb3
  go_enter Tryd.func5, Tryd.ntmps5
  go_wp2_with (at_builtin; refine wpList_append_row rfl _ _ 25 rfl (w.heap.size + 3) 5 j0 (.int .u8 0) 1 1 Tryd.underlying25 hj0 hz0 hs0 hy0 rfl (by decide) (.slice none 0 0) 0 [] rfl (World.ownsRow_nil _ _ _ _) (.slice A2 x.sign.length c2) x.sign.length (cellsL x.sign) rfl (hr3 _ _ _) (cellsL_one _) j5 j6 (by simp <;> omega) ?_; intro A7 c7 w7 hown7 hgrow7 hat7; simp only [Nat.zero_add, List.nil_append] at hown7; have hb7 := below_of_grown hgrow7; obtain ⟨x0, x1, x2⟩ := HX.out (.cells #[.string (strOf x.account), .int .i64 x.seq, .string (strOf x.denom), .int .i64 x.amount, .slice A1 x.msgs.length c1, .slice A2 x.sign.length c2] 27) (.cells #[.string ⟨#[]⟩, .int .i64 0, .string ⟨#[]⟩, .int .i64 0, .slice none 0 0, .slice none 0 0] 34) (.cells #[.string (strOf x.account), .int .i64 x.seq, .string (strOf x.denom), .int .i64 x.amount, .slice none 0 0, .slice none 0 0] 34); have b0 := (hb7.block w.heap.size (by simp <;> omega)).trans x0; have b1 := (hb7.block (w.heap.size + 1) (by simp <;> omega)).trans x1; have b2 := (hb7.block (w.heap.size + 2) (by simp <;> omega)).trans x2; clear x0 x1 x2; have f0 := Lib.cell_of_heap b2 5; have ff := Lib.frozen_of_heap b2 5; have c4 := Lib.cell_of_heap b0 4; have H0 := Lib.hid b0; have H1 := Lib.hid b1; have H2 := Lib.hid b2; clear b0 b1 b2)
  have b2 := box_stored (i := 5) (u := .slice A7 x.sign.length c7) H2.out rfl
  have b0 := (Below.heap_setCell w7 ⟨w.heap.size + 2, 5, none⟩ (.slice A7 x.sign.length c7) w.heap.size (by simp)).trans H0.out
  have b1 := (Below.heap_setCell w7 ⟨w.heap.size + 2, 5, none⟩ (.slice A7 x.sign.length c7) (w.heap.size + 1) (by simp)).trans H1.out
  have o5 := own_stored (k := w.heap.size + 2) (i := 5) (u := .slice A7 x.sign.length c7) hown7 (by omega)
  have q7 := ((HB.out (.cells #[.string (strOf x.account), .int .i64 x.seq, .string (strOf x.denom), .int .i64 x.amount, .slice A1 x.msgs.length c1, .slice A2 x.sign.length c2] 27) (.cells #[.string ⟨#[]⟩, .int .i64 0, .string ⟨#[]⟩, .int .i64 0, .slice none 0 0, .slice none 0 0] 34) (.cells #[.string (strOf x.account), .int .i64 x.seq, .string (strOf x.denom), .int .i64 x.amount, .slice none 0 0, .slice none 0 0] 34)).trans (hb7.mono (by simp <;> omega))).setCell (p := ⟨w.heap.size + 2, 5, none⟩) (by simp) (.slice A7 x.sign.length c7)
  clear H0 H1 H2 hown7 hgrow7 hat7 hb7 hr3 f0 ff HX HB
  generalize w7.setCell ⟨w.heap.size + 2, 5, none⟩ (.slice A7 x.sign.length c7) = V at *
  have hV3 : w.heap.size + 3 ≤ V.heap.size := (Array.getElem?_eq_some_iff.1 b2).1
  have st0 : GvSt w.heap.size x (.slice A1 x.msgs.length c1) (.slice A2 x.sign.length c2) (.slice none 0 0) (.slice A7 x.sign.length c7) V := ⟨b0, b1, b2⟩
  have c4 := Lib.cell_of_heap b0 4
  clear b0 b1 b2
  go_loopg [4] x.msgs.length (fun k s4 wq => ∃ (i : Nat) (A : Option Addr) (c : Nat), k + i = x.msgs.length ∧ s4 = .int .i64 (i : Int) ∧ GvSt w.heap.size x (.slice A1 x.msgs.length c1) (.slice A2 x.sign.length c2) (.slice A i c) (.slice A7 x.sign.length c7) wq ∧ OwnMsgs V.heap.size wq (.slice A i c) (x.msgs.take i) ∧ wq.ownsRow (w.heap.size + 3) 5 1 (.slice A7 x.sign.length c7) x.sign.length (cellsL x.sign) ∧ Below w.heap.size w wq ∧ V.heap.size ≤ wq.heap.size)
  case atStart => exact ⟨0, none, 0, by omega, rfl, st0, OwnMsgs.nil_ _ _, o5, q7, Nat.le_refl _⟩
  case round =>
    have HSG := fun k hk => (o5.lt k hk).2
    have HSG := Lib.hid HSG
    clear st0 c4 o5 q7
    obtain ⟨i, A, c, hi, rfl, st, ho, osg, hq, hVr⟩ := hrel
    rename World => Y
    have c4 := Lib.cell_of_heap st.b0 4
    have i0 : (0 : Int) ≤ (i : Int) := by omega
    by_cases hlt : i < x.msgs.length
    · have hx : x.msgs[i]? = some x.msgs[i] := List.getElem?_eq_getElem hlt
      have htk : x.msgs.take (i + 1) = x.msgs.take i ++ [x.msgs[i]] := by rw [List.take_succ_eq_append_getElem hlt]
      generalize x.msgs[i] = m at *
      have hsm := s5 m (List.mem_of_getElem? hx)
      have i1 : (i : Int) < (x.msgs.length : Int) := by omega
      obtain ⟨bb, o, P1, P2, P3, p1, p2, p3, rfl, m0, m1, m2, m3, hat⟩ := (h1.keep hq).at hx
      have HTK := Lib.hid htk
      clear hx htk
      have hbo : bb < Y.heap.size := cell_lt m0
      have hgb : w.heap.size < Y.heap.size := by omega
      obtain ⟨z1, z2, z3, z4, z5⟩ := hsm
      obtain ⟨-, a1, a2, a3⟩ := hat
      have hFA : ∀ W, Below Y.heap.size Y W → W.cell? ⟨w.heap.size, 4, none⟩ = some (.slice (some ⟨bb, o, none⟩) x.msgs.length c1) ∧ W.cell? ⟨bb, o + i * 4 + 1, none⟩ = some (.slice P1 m.texts.length p1) ∧ W.cell? ⟨bb, o + i * 4 + 2, none⟩ = some (.slice P2 m.ints.length p2) ∧ W.cell? ⟨bb, o + i * 4 + 3, none⟩ = some (.slice P3 m.data.length p3) := fun W hW => ⟨(hW.cell hgb).trans c4, (hW.cell hbo).trans m1, (hW.cell hbo).trans m2, (hW.cell hbo).trans m3⟩
      have FA := Lib.hid hFA
      have hU := below_alloc Y (.cells #[.int .i64 m.kind, .slice none 0 0, .slice none 0 0, .slice none 0 0] 55)
      have bU := heap_alloc_new Y (.cells #[.int .i64 m.kind, .slice none 0 0, .slice none 0 0, .slice none 0 0] 55)
      clear hFA
      go_upto_region 7 with fail
      generalize Y.alloc (.cells #[.int .i64 m.kind, .slice none 0 0, .slice none 0 0, .slice none 0 0] 55) = U at *
      have BU := Lib.hid bU
      have hs5 := s5
      clear bU
      go_cut [] (fun wx => ∃ (T1 : Option Addr) (t1 : Nat), Hid (wx.heap[Y.heap.size]? = some (.cells #[.int .i64 m.kind, .slice T1 m.texts.length t1, .slice none 0 0, .slice none 0 0] 55 (0, 0))) ∧ wx.ownsRow (Y.heap.size + 1) 9 1 (.slice T1 m.texts.length t1) m.texts.length ((m.texts.map strOf).map Value.string) ∧ Below Y.heap.size Y wx)
      case first =>
        obtain ⟨f4, f1, f2, f3⟩ := FA.out U hU
        have gU := (Array.getElem?_eq_some_iff.1 BU.out).1
        have g1 := Lib.cell_of_heap BU.out 1
        have gf := fun o => Lib.frozen_of_heap BU.out o
        have rU := (a1.row.keep hU).keep (Below.refl U.heap.size U).drew
        rw [List.length_map] at rU
        have l1 : 0 + m.texts.length ≤ maxLen := by unfold maxLen; omega
        have l2 : (0 + m.texts.length) * 16 ≤ 140737488355328 := by omega
        have hbU : Y.heap.size + 1 ≤ U.drew.heap.size := gU
        clear c4 m0 m1 m2 m3
        go_region_law (first
          | (refine step_append_row rfl _ _ 50 rfl (Y.heap.size + 1) 9 j1 (.string ⟨#[]⟩) 1 16 Tryd.underlying50 hj1 hz1 hs1 hy1 rfl (by decide) (.slice none 0 0) 0 [] rfl (World.ownsRow_nil _ _ _ _) (.slice P1 m.texts.length p1) m.texts.length ((m.texts.map strOf).map Value.string) rfl rU (strs_one _) l1 l2 hbU ?_; intro T1 t1 y1 hown1 hgrow1 hat1; simp only [Nat.zero_add, List.nil_append] at hown1; have hy1 := below_of_grown hgrow1; have hb4 := (hy1.block Y.heap.size hbU).trans BU.out; have n1 := Lib.cell_of_heap hb4 1; have nf := fun o => Lib.frozen_of_heap hb4 o; have HB4 := Lib.hid hb4; clear hb4))
        all_goals
          go_wp2_with fail
          go_meet
          exact ⟨T1, t1, Lib.hid (box_stored HB4.out rfl), own_stored hown1 (Nat.lt_succ_self _), ((hU.drew.trans (hy1.mono hU.size)).setCell (Nat.le_refl _) _)⟩
      case rest =>
        obtain ⟨T1, t1, BX, oT, hX⟩ := hcut
        clear hU BU
        go_upto_region 8 with fail
        go_cut [] (fun wx => ∃ (I1 : Option Addr) (i1 : Nat), Hid (wx.heap[Y.heap.size]? = some (.cells #[.int .i64 m.kind, .slice T1 m.texts.length t1, .slice I1 m.ints.length i1, .slice none 0 0] 55 (0, 0))) ∧ wx.ownsRow (Y.heap.size + 1) 3 1 (.slice I1 m.ints.length i1) m.ints.length (intsV m.ints) ∧ wx.ownsRow (Y.heap.size + 1) 9 1 (.slice T1 m.texts.length t1) m.texts.length ((m.texts.map strOf).map Value.string) ∧ Below Y.heap.size Y wx)
        case first =>
          obtain ⟨f4, f1, f2, f3⟩ := FA.out wc hX
          have gU := (Array.getElem?_eq_some_iff.1 BX.out).1
          have g1 := Lib.cell_of_heap BX.out 2
          have gf := fun o => Lib.frozen_of_heap BX.out o
          have rU : Row wc.drew (.slice P2 m.ints.length p2) 1 m.ints.length (intsV m.ints) := (Row.keep a2 hX).keep (Below.refl wc.heap.size wc).drew
          have l1 : 0 + m.ints.length ≤ maxLen := by unfold maxLen; omega
          have l2 : (0 + m.ints.length) * 8 ≤ 140737488355328 := by omega
          have hbU : Y.heap.size + 1 ≤ wc.drew.heap.size := gU
          clear c4 m0 m1 m2 m3
          go_region_law (first
            | (refine step_append_row rfl _ _ 51 rfl (Y.heap.size + 1) 3 j2 (.int .i64 0) 1 8 Tryd.underlying51 hj2 hz2 hs2 hy2 rfl (by decide) (.slice none 0 0) 0 [] rfl (World.ownsRow_nil _ _ _ _) (.slice P2 m.ints.length p2) m.ints.length (intsV m.ints) rfl rU (intsV_one _) l1 l2 hbU ?_; intro I1 i1 y1 hown1 hgrow1 hat1; simp only [Nat.zero_add, List.nil_append] at hown1; have hy1 := below_of_grown hgrow1; have hb4 := (hy1.block Y.heap.size hbU).trans BX.out; have n1 := Lib.cell_of_heap hb4 2; have nf := fun o => Lib.frozen_of_heap hb4 o; have HB4 := Lib.hid hb4; clear hb4))
          all_goals
            go_wp2_with fail
            go_meet
            exact ⟨I1, i1, Lib.hid (box_stored HB4.out rfl), own_stored hown1 (Nat.lt_succ_self _), own_stored (own_belowW (show wc.drew.ownsRow _ _ _ _ _ _ from oT) hy1) (Nat.lt_succ_self _), ((hX.drew.trans (hy1.mono hX.size)).setCell (Nat.le_refl _) _)⟩
        case rest =>
          obtain ⟨I1, i1, BZ, oI, oT2, hZ⟩ := hcut
          clear BX oT hX
          go_wp2_with fail
          go_loopg [6] m.data.length (fun k s6 wq => ∃ (j : Nat) (D : Option Addr) (d : Nat), k + j = m.data.length ∧ s6 = .int .i64 (j : Int) ∧ Hid (wq.heap[Y.heap.size]? = some (.cells #[.int .i64 m.kind, .slice T1 m.texts.length t1, .slice I1 m.ints.length i1, .slice D j d] 55 (0, 0))) ∧ OwnDatas (Y.heap.size + 1) wq (.slice D j d) (m.data.take j) ∧ wq.ownsRow (Y.heap.size + 1) 3 1 (.slice I1 m.ints.length i1) m.ints.length (intsV m.ints) ∧ wq.ownsRow (Y.heap.size + 1) 9 1 (.slice T1 m.texts.length t1) m.texts.length ((m.texts.map strOf).map Value.string) ∧ Below Y.heap.size Y wq)
          case atStart => exact ⟨0, none, 0, by omega, rfl, BZ, ⟨[], World.ownsRow_nil _ _ _ _, by simp, by simp⟩, oI, oT2, hZ⟩
          case round =>
            clear BZ oI oT2 hZ
            obtain ⟨j, D, d, hj, rfl, BZ, oD, oI, oT, hZ⟩ := hrel
            obtain ⟨f4, f1, f2, f3⟩ := FA.out wr hZ
            have gZ := (Array.getElem?_eq_some_iff.1 BZ.out).1
            have r0 : (0 : Int) ≤ (j : Int) := by omega
            by_cases hlj : j < m.data.length
            · have hx : m.data[j]? = some m.data[j] := List.getElem?_eq_getElem hlj
              have htk : m.data.take (j + 1) = m.data.take j ++ [m.data[j]] := by rw [List.take_succ_eq_append_getElem hlj]
              generalize m.data[j] = t at *
              have htl := z5 t (List.mem_of_getElem? hx)
              have r1 : (j : Int) < (m.data.length : Int) := by omega
              obtain ⟨b3, o3, Ad, cd, rfl, u0, hbt⟩ := (a3.keep hZ).at hx
              have HTJ := Lib.hid htk
              obtain ⟨vs, oV, hone, hvv⟩ := oD
              rw [List.length_take, Nat.min_eq_left (by omega)] at oV
              have HON := Lib.hid hone
              have HVV := Lib.hid hvv
              clear hx htk hone hvv
              go_wp2_with fail
              have g1 := Lib.cell_of_heap BZ.out 3
              have gf := fun o => Lib.frozen_of_heap BZ.out o
              have rU : Row wr.drew (.slice Ad t.length cd) 1 t.length (cellsL t) := Row.keep hbt (Below.refl wr.heap.size wr).drew
              have l1 : 0 + t.length ≤ maxLen := by unfold maxLen; omega
              have l2 : (0 + t.length) * 1 ≤ 140737488355328 := by omega
              have l3 : j + 1 ≤ maxLen := by unfold maxLen; omega
              have l4 : (j + 1) * 24 ≤ 140737488355328 := by omega
              have hbU : Y.heap.size + 1 ≤ wr.drew.heap.size := gZ
              have oVd : wr.drew.ownsRow (Y.heap.size + 1) 25 1 (.slice D j d) j vs := oV
              clear c4 m0 m1 m2 m3
              go_region_law (first
                | (refine step_append_row rfl _ _ 52 rfl (Y.heap.size + 1) 25 j3 (.slice none 0 0) 1 24 Tryd.underlying52 hj3 hz3 hs3 hy3 rfl (by decide) (.slice D j d) j vs rfl ow2 (.slice (some ⟨y1.heap.size, 0, none⟩) 1 1) 1 [.slice T7 t.length t7] rfl rw2 (by simp [Value.oneCell']) l3 l4 bw2 ?_; intro D2 d2 y2 hown2 hgrow2 hat2; have hy2 := hgrow2.size; rw [World.size_alloc] at hy2; have hb4 := (hgrow2.block Y.heap.size (by rw [World.size_alloc]; omega) (fun e => by have := (ow2.lt Y.heap.size e.symm).1; omega)).trans ((heap_alloc_old y1 _ hlt1).trans hb1); have n1 := Lib.cell_of_heap hb4 3; have nf := fun o => Lib.frozen_of_heap hb4 o; have HB4 := Lib.hid hb4; clear hb4)
                | (refine step_append_row rfl _ _ 25 rfl (Y.heap.size + 1) 5 j0 (.int .u8 0) 1 1 Tryd.underlying25 hj0 hz0 hs0 hy0 rfl (by decide) (.slice none 0 0) 0 [] rfl (World.ownsRow_nil _ _ _ _) (.slice Ad t.length cd) t.length (cellsL t) rfl rU (cellsL_one _) l1 l2 hbU ?_; intro T7 t7 y1 hown1 hgrow1 hat1; simp only [Nat.zero_add, List.nil_append] at hown1; have hy1 := below_of_grown hgrow1; have hb1 := (hy1.block Y.heap.size hbU).trans BZ.out; have hlt1 : Y.heap.size < y1.heap.size := Nat.lt_of_lt_of_le gZ hy1.size; have k1 := Lib.cell_of_heap hb1 3; have kf := fun o => Lib.frozen_of_heap hb1 o; have ow1 := own_belowW oVd hy1; have ow2 := ow1.alloc (.cells #[.slice T7 t.length t7] 25); have rw2 : Row (y1.alloc (.cells #[.slice T7 t.length t7] 25)) (.slice (some ⟨y1.heap.size, 0, none⟩) 1 1) 1 1 [.slice T7 t.length t7] := Row.of_own (own_block (base := y1.heap.size) (heap_alloc_new y1 _) (Nat.le_refl _) rfl (by decide)); have bw2 : Y.heap.size + 1 ≤ (y1.alloc (.cells #[.slice T7 t.length t7] 25)).heap.size := (by rw [World.size_alloc]; omega); obtain ⟨e4, e1, e2, e3⟩ := FA.out y1 (hZ.drew.trans (hy1.mono hZ.size)); have e0 := (hy1.cell (cell_lt u0)).trans (show wr.drew.cell? _ = _ from u0)))
              all_goals
                go_wp2_with fail
                go_roundg (m.data.length - (j + 1))
                case measure => omega
                case rel =>
                  have hbn := (((hZ.drew.trans (hy1.mono hZ.size)).alloc (by omega) (.cells #[.slice T7 t.length t7] 25)).grown hgrow2 (by rw [World.size_alloc]; omega) (fun k hk => by have := (ow2.lt k hk).1; omega)).setCell (p := ⟨Y.heap.size, 3, none⟩) (Nat.le_refl _) (.slice D2 (j + 1) d2)
                  refine ⟨j + 1, D2, d2, by omega, by go_num, Lib.hid (box_stored HB4.out rfl), ⟨vs ++ [.slice T7 t.length t7], ?_, ?_, ?_⟩, own_stored (own_other ((own_belowW (show wr.drew.ownsRow _ _ _ _ _ _ from oI) hy1).alloc _) ow2 (by decide) hgrow2) (Nat.lt_succ_self _), own_stored (own_other ((own_belowW (show wr.drew.ownsRow _ _ _ _ _ _ from oT) hy1).alloc _) ow2 (by decide) hgrow2) (Nat.lt_succ_self _), hbn⟩
                  · rw [List.length_take, Nat.min_eq_left (by omega)]
                    exact own_stored hown2 (Nat.lt_succ_self _)
                  · intro u hu
                    rcases List.mem_append.1 hu with hu | hu
                    · exact HON.out u hu
                    · rw [List.mem_singleton.1 hu]; rfl
                  · intro q u b hu hb
                    have hvl : vs.length = j := by have := oV.1; omega
                    have hdl : (m.data.take j).length = j := by rw [List.length_take]; omega
                    rw [HTJ.out] at hb
                    rcases Nat.lt_or_ge q j with hq2 | hq2
                    · rw [List.getElem?_append_left (by omega)] at hu hb
                      exact own_stored (own_other ((own_belowW (show wr.drew.ownsRow _ _ _ _ _ _ from HVV.out q u b hu hb) hy1).alloc _) ow2 (by decide) hgrow2) (Nat.lt_succ_self _)
                    · rw [List.getElem?_append_right (by omega), hvl] at hu
                      rw [List.getElem?_append_right (by omega), hdl] at hb
                      rcases hji : q - j with _ | z
                      · rw [hji] at hu hb
                        obtain rfl : Value.slice T7 t.length t7 = u := by simpa using hu
                        obtain rfl : t = b := by simpa using hb
                        exact own_stored (own_other (hown1.alloc _) ow2 (by decide) hgrow2) (Nat.lt_succ_self _)
                      · rw [hji] at hu; simp at hu
            · obtain rfl : m.data.length = j := by omega
              rw [List.take_length] at oD
              have hom : OwnMsg V.heap.size wr ⟨m.kind, .slice T1 m.texts.length t1, .slice I1 m.ints.length i1, .slice D m.data.length d⟩ m := OwnMsg.mono (B := Y.heap.size + 1) ⟨rfl, oT, oI, oD⟩ (by omega)
              have stw := st.below hZ
              obtain ⟨ms, oM, hml, hall⟩ := ho.below hZ
              have htl : (x.msgs.take i).length = i := by rw [List.length_take]; omega
              rw [htl] at oM hml
              have k0 := Lib.cell_of_heap BZ.out 0
              have k1 := Lib.cell_of_heap BZ.out 1
              have k2 := Lib.cell_of_heap BZ.out 2
              have k3 := Lib.cell_of_heap BZ.out 3
              have y4 := Lib.cell_of_heap stw.b2 4
              have l3 : i + 1 ≤ maxLen := by unfold maxLen; omega
              have l4 : (i + 1) * 80 ≤ 140737488355328 := by omega
              have hzr := hZ.size
              have oMa := oM.alloc (.cells #[.int .i64 m.kind, .slice T1 m.texts.length t1, .slice I1 m.ints.length i1, .slice D m.data.length d] 55)
              have rwm : Row (wr.alloc (.cells #[.int .i64 m.kind, .slice T1 m.texts.length t1, .slice I1 m.ints.length i1, .slice D m.data.length d] 55)) (.slice (some ⟨wr.heap.size, 0, none⟩) 1 1) 4 1 (msgCells ⟨m.kind, .slice T1 m.texts.length t1, .slice I1 m.ints.length i1, .slice D m.data.length d⟩) := Row.of_own (own_block (base := wr.heap.size) (heap_alloc_new wr _) (Nat.le_refl _) rfl (by decide))
              have bwm : V.heap.size ≤ (wr.alloc (.cells #[.int .i64 m.kind, .slice T1 m.texts.length t1, .slice I1 m.ints.length i1, .slice D m.data.length d] 55)).heap.size := by rw [World.size_alloc]; omega
              have hwb2 := (Array.getElem?_eq_some_iff.1 stw.b2).1
              have HALL := Lib.hid hall
              have HML := Lib.hid hml
              have HTL := Lib.hid htl
              have osw := own_belowW osg hZ
              have qw := hq.trans (hZ.mono hq.size)
              clear hall hml htl oD oT oI f1 f2 r0 hlj c4 m0 m1 m2 m3 oM osg
              have hone4 : ∀ u ∈ msgCells ⟨m.kind, .slice T1 m.texts.length t1, .slice I1 m.ints.length i1, .slice D m.data.length d⟩, u.oneCell' = true := by simp [msgCells, Value.oneCell']
              go_wp2_with (at_builtin; refine wpList_append_row rfl _ _ 32 rfl V.heap.size 55 j4 (.agg #[.int .i64 0, .slice none 0 0, .slice none 0 0, .slice none 0 0]) 4 80 Tryd.underlying32 hj4 hz4 hs4 hy4 rfl (by decide) (.slice A i c) i (msgsCells ms) rfl oMa (.slice (some ⟨wr.heap.size, 0, none⟩) 1 1) 1 (msgCells ⟨m.kind, .slice T1 m.texts.length t1, .slice I1 m.ints.length i1, .slice D m.data.length d⟩) rfl rwm hone4 l3 l4 bwm ?_; intro A9 c9 w9 hown9 hgrow9 hat9; have hy9 := hgrow9.size; rw [World.size_alloc] at hy9; have hb9 := (hgrow9.block (w.heap.size + 2) (by rw [World.size_alloc]; omega) (fun e => by have := (oMa.lt (w.heap.size + 2) e.symm).1; omega)).trans ((heap_alloc_old wr _ hwb2).trans stw.b2); have n1 := Lib.cell_of_heap hb9 4; have nf := fun o => Lib.frozen_of_heap hb9 o; have HB9 := Lib.hid hb9; clear hb9)
              go_roundg (x.msgs.length - (i + 1))
              case measure => omega
              case rel =>
                have hold : ∀ q, q < w.heap.size + 2 → (w9.setCell ⟨w.heap.size + 2, 4, none⟩ (.slice A9 (i + 1) c9)).heap[q]? = wr.heap[q]? := fun q hq2 => (Below.heap_setCell w9 ⟨w.heap.size + 2, 4, none⟩ _ q (by simp; omega)).trans ((hgrow9.block q (by rw [World.size_alloc]; omega) (fun e => by have := (oMa.lt q e.symm).1; omega)).trans (heap_alloc_old wr _ (by omega)))
                refine ⟨i + 1, A9, c9, by omega, by go_num, ⟨(hold _ (by omega)).trans stw.b0, (hold _ (by omega)).trans stw.b1, box_stored HB9.out rfl⟩, ?_, own_stored (own_other (osw.alloc _) oMa (by decide) hgrow9) (by omega), ?_, by simp only [World.setCell, Array.size_modify]; omega⟩
                · rw [HTK.out]
                  exact (OwnMsgs.push HTL.out HML.out (fun j p m hp hm => (HALL.out j p m hp hm).below (below_alloc _ _)) (hom.below (below_alloc _ _)) oMa hgrow9 hown9).stored (by omega)
                · exact Below.setCell ((qw.alloc qw.size _).grown hgrow9 (by rw [World.size_alloc]; have := qw.size; omega) (fun k hk => by have := (oMa.lt k hk).1; omega)) (by show w.heap.size ≤ w.heap.size + 2; omega) _
    · have hil : i = x.msgs.length := by omega
      subst hil
      rw [List.take_length] at ho
      have z0 := Lib.cell_of_heap st.b1 0
      have z1 := Lib.cell_of_heap st.b1 1
      have z2 := Lib.cell_of_heap st.b1 2
      have z3 := Lib.cell_of_heap st.b1 3
      have z4 := Lib.cell_of_heap st.b1 4
      have z5 := Lib.cell_of_heap st.b1 5
      have zf := fun o => Lib.frozen_of_heap st.b1 o
      have y0 := Lib.cell_of_heap st.b2 0
      have y1 := Lib.cell_of_heap st.b2 1
      have y2 := Lib.cell_of_heap st.b2 2
      have y3 := Lib.cell_of_heap st.b2 3
      have y4 := Lib.cell_of_heap st.b2 4
      have y5 := Lib.cell_of_heap st.b2 5
      go_wp2_with fail
      refine bodyPost_ret (v := txV x (.slice A x.msgs.length c) (.slice A7 x.sign.length c7)) (by simp [results, Tryd.results5, go_sem, txV, z0, z1, z2, z3, z4, z5]) rfl ?_
      have hzz : w.heap.size + 1 < V.heap.size := by omega
      exact ⟨A, c, A7, c7, V.heap.size, rfl, ((((((ho.stored (k := w.heap.size + 1) (i := 0) (u := .string (strOf x.account)) (by omega)).stored (k := w.heap.size + 1) (i := 1) (u := .int .i64 x.seq) (by omega)).stored (k := w.heap.size + 1) (i := 2) (u := .string (strOf x.denom)) (by omega)).stored (k := w.heap.size + 1) (i := 3) (u := .int .i64 x.amount) (by omega)).stored (k := w.heap.size + 1) (i := 4) (u := .slice A x.msgs.length c) (by omega)).stored (k := w.heap.size + 1) (i := 5) (u := .slice A7 x.sign.length c7) (by omega)), World.ownsRow.mono (own_stored (k := w.heap.size + 1) (i := 5) (u := .slice A7 x.sign.length c7) (own_stored (k := w.heap.size + 1) (i := 4) (u := .slice A x.msgs.length c) (own_stored (k := w.heap.size + 1) (i := 3) (u := .int .i64 x.amount) (own_stored (k := w.heap.size + 1) (i := 2) (u := .string (strOf x.denom)) (own_stored (k := w.heap.size + 1) (i := 1) (u := .int .i64 x.seq) (own_stored (k := w.heap.size + 1) (i := 0) (u := .string (strOf x.account)) osg (by omega)) (by omega)) (by omega)) (by omega)) (by omega)) (by omega)) (by omega), HSG.out, by omega, ((((((hq.setCell (p := ⟨w.heap.size + 1, 0, none⟩) (by simp) _).setCell (p := ⟨w.heap.size + 1, 1, none⟩) (by simp) _).setCell (p := ⟨w.heap.size + 1, 2, none⟩) (by simp) _).setCell (p := ⟨w.heap.size + 1, 3, none⟩) (by simp) _).setCell (p := ⟨w.heap.size + 1, 4, none⟩) (by simp) _).setCell (p := ⟨w.heap.size + 1, 5, none⟩) (by simp) _)⟩
end Go.Proofs.YteajgnoimbdkbaaDoor

/- The walk of the law TxsShapes. -/
import Derived.Test.YteajgnoimbdkbaaGreatDoorTxSure
import Derived.Test.YteajgnoimbdkbaaGreatDoorNum
import Derived.Deep.DeepCutAuto
import Derived.BigRegion
namespace Go.Proofs.YteajgnoimbdkbaaGreatDoor
open Go.RowKit

theorem seven (n : Int) : ∃ a : Nat, a < 7 ∧ wrap64 ((IntKind.u64.wrap n).tmod 7) = (a : Int) := by
  have h : 0 ≤ IntKind.u64.wrap n := wrap_u64_nonneg n
  refine ⟨((IntKind.u64.wrap n) % 7).toNat, by omega, ?_⟩
  rw [Int.tmod_eq_emod_of_nonneg h]
  generalize IntKind.u64.wrap n = m at *
  unfold wrap64
  omega
def intsUp (n : Nat) : List Int := (List.range n).map Int.ofNat
theorem intsUp_succ (n : Nat) : intsV (intsUp (n + 1)) = intsV (intsUp n) ++ [.int .i64 (n : Int)] := by simp [intsUp, intsV, List.range_succ]

/-- The transaction of the law: plain but for its message. -/
def shapesMsg (k : Int) (a b c : Nat) : MsgD := ⟨k, List.replicate a [], intsUp b, List.replicate c []⟩
def shapesTx (k : Int) (a b c : Nat) : TxD := ⟨[97, 110, 110], 0, [97, 116, 111, 109], 0, [shapesMsg k a b c], []⟩
theorem shapes_tx {X Y : World} {B g a b c d2 t u x : Nat} {k : Int} {T I D A2 : Option Addr} (pT : X.ownsRow B 9 1 (.slice T a t) a (List.replicate a (.string ⟨#[]⟩))) (pI : X.ownsRow B 3 1 (.slice I b u) b (intsV (intsUp b))) (pD : X.ownsRow B 27 1 (.slice D c x) c (List.replicate c (.slice none 0 0)))
    (mb : X.heap[g]? = some (.cells #[.int .i64 k, .slice T a t, .slice I b u, .slice D c x] 35 (0, 0))) (hg : Bts Y (.slice A2 0 d2) []) :
    TxAt X (.agg #[.string (strOf [97, 110, 110]), .int .i64 0, .string (strOf [97, 116, 111, 109]), .int .i64 0, .slice (some ⟨g, 0, none⟩) 1 1, .slice A2 0 d2]) (shapesTx k a b c) := by
  have hm : OwnMsg B X ⟨k, .slice T a t, .slice I b u, .slice D c x⟩ (shapesMsg k a b c) := by
    refine ⟨rfl, ?_, ?_, List.replicate c (.slice none 0 0), ?_, ?_, ?_⟩
    · simpa [shapesMsg, strOf] using pT
    · simpa [shapesMsg, intsUp] using pI
    · simpa [shapesMsg] using pD
    · intro v hv
      rw [List.eq_of_mem_replicate hv]
      rfl
    · intro j v l hv hl
      obtain rfl := List.eq_of_mem_replicate (List.mem_of_getElem? hv)
      obtain rfl := List.eq_of_mem_replicate (List.mem_of_getElem? (show (List.replicate c ([] : List UInt8))[j]? = some l from hl))
      exact World.ownsRow_nil _ _ _ _
  refine ⟨.slice (some ⟨g, 0, none⟩) 1 1, .slice A2 0 d2, rfl, ⟨[⟨k, .slice T a t, .slice I b u, .slice D c x⟩], Row.of_own (own_block (n := 1) (size := 4) 0 mb (Nat.zero_le _) rfl (by decide)), fun j p m hp hm' => ?_⟩, ?_⟩
  · match j, hp, hm' with
    | 0, hp, hm' =>
      obtain rfl := Option.some.inj hp
      obtain rfl := Option.some.inj hm'
      exact hm.at
    | j + 1, hp, _ => simp at hp
  · obtain ⟨p1, A, cc, e, p2, p3⟩ := hg
    exact ⟨p1, A, cc, e, p2, fun h0 => absurd h0 (by simp [shapesTx])⟩
theorem shapes_small {k : Int} {a b c : Nat} (ha : a < 7) (hb : b < 7) (hc : c < 7) : TxSmall (shapesTx k a b c) := by
  refine ⟨by simp [shapesTx], by simp [shapesTx], by simp [shapesTx], by simp [shapesTx], fun m hm => ?_⟩
  obtain rfl := List.mem_singleton.1 hm
  refine ⟨by simp [shapesMsg]; omega, by simp [shapesMsg, intsUp]; omega, by simp [shapesMsg]; omega, fun t ht => ?_, fun t ht => ?_⟩
  · rw [List.eq_of_mem_replicate ht]; decide
  · rw [List.eq_of_mem_replicate ht]; decide
theorem long_nil (n a : Nat) : longB n (List.replicate a []) = false := longB_no fun j t h => by
  rw [List.eq_of_mem_replicate (List.mem_of_getElem? h)]
  exact Nat.zero_le _
theorem shapes_n (k : Int) (a b c : Nat) : txN (shapesTx k a b c) = if fitB (shapesMsg k a b c) then 0 else 1 := by
  have h1 : nameB (strOf [97, 110, 110]) = true := by decide +kernel
  have h2 : seqB 0 = true := by decide
  have h3 : checkF (strOf [97, 116, 111, 109]) = 0 := by decide +kernel
  have h4 : feeB 0 = true := by decide
  have h5 : msgsN [shapesMsg k a b c] = if fitB (shapesMsg k a b c) then 0 else 1 := by
    have l1 : longB 256 (shapesMsg k a b c).texts = false := long_nil 256 a
    have l2 : longB 16384 (shapesMsg k a b c).data = false := long_nil 16384 c
    by_cases hf : fitB (shapesMsg k a b c) = true <;> simp [msgsN, msgN, l1, l2, hf]
  show (if nameB (strOf [97, 110, 110]) = false then 42 else if seqB 0 = false then 43 else if checkF (strOf [97, 116, 111, 109]) ≠ 0 then checkF (strOf [97, 116, 111, 109]) else if feeB 0 = false then 44 else if [shapesMsg k a b c].length = 0 ∨ 8 < [shapesMsg k a b c].length then 1 else if msgsN [shapesMsg k a b c] ≠ 0 then msgsN [shapesMsg k a b c] else if 8192 < ([] : List UInt8).length then 2 else 0) = _
  rw [h1, h2, h3, h4, h5]
  by_cases hf : fitB (shapesMsg k a b c) = true <;> simp [hf]
theorem shapes_ways (k : Int) (a b c : Nat) : (1 ≤ k ∧ k ≤ 18 ∧ (a : Int) = (shapeF k).1 ∧ (b : Int) = (shapeF k).2.1 ∧ (c : Int) = (shapeF k).2.2 ∧ txN (shapesTx k a b c) = 0) ∨ (k < 1 ∧ shapeF k = (0, 0, 0) ∧ txN (shapesTx k a b c) = 1) ∨ (1 ≤ k ∧ 18 < k ∧ shapeF k = (0, 0, 0) ∧ txN (shapesTx k a b c) = 1)
    ∨ (1 ≤ k ∧ k ≤ 18 ∧ (a : Int) ≠ (shapeF k).1 ∧ txN (shapesTx k a b c) = 1) ∨ (1 ≤ k ∧ k ≤ 18 ∧ (a : Int) = (shapeF k).1 ∧ (b : Int) ≠ (shapeF k).2.1 ∧ txN (shapesTx k a b c) = 1) ∨ (1 ≤ k ∧ k ≤ 18 ∧ (a : Int) = (shapeF k).1 ∧ (b : Int) = (shapeF k).2.1 ∧ (c : Int) ≠ (shapeF k).2.2 ∧ txN (shapesTx k a b c) = 1) := by
  rw [shapes_n]
  have hf : fitB (shapesMsg k a b c) = true ↔ (1 ≤ k ∧ k ≤ 18 ∧ a = (shapeF k).1 ∧ b = (shapeF k).2.1 ∧ c = (shapeF k).2.2) := by
    simp [fitB, shapesMsg, intsUp, and_assoc]
    exact ⟨fun h => ⟨of_decide_eq_true h.1, of_decide_eq_true h.2.1, h.2.2⟩, fun h => ⟨decide_eq_true h.1, decide_eq_true h.2.1, h.2.2⟩⟩
  by_cases h1 : 1 ≤ k
  · by_cases h2 : k ≤ 18
    · by_cases h3 : a = (shapeF k).1
      · by_cases h4 : b = (shapeF k).2.1
        · by_cases h5 : c = (shapeF k).2.2
          · exact .inl ⟨h1, h2, by omega, by omega, by omega, if_pos (hf.2 ⟨h1, h2, h3, h4, h5⟩)⟩
          · exact .inr (.inr (.inr (.inr (.inr ⟨h1, h2, by omega, by omega, by omega, if_neg fun h => h5 (hf.1 h).2.2.2.2⟩))))
        · exact .inr (.inr (.inr (.inr (.inl ⟨h1, h2, by omega, by omega, if_neg fun h => h4 (hf.1 h).2.2.2.1⟩))))
      · exact .inr (.inr (.inr (.inl ⟨h1, h2, by omega, if_neg fun h => h3 (hf.1 h).2.2.1⟩)))
    · exact .inr (.inr (.inl ⟨h1, by omega, by rw [shapeF, if_neg (by omega)], if_neg fun h => h2 (hf.1 h).2.1⟩))
  · exact .inr (.inl ⟨by omega, by rw [shapeF, if_neg (by omega)], if_neg fun h => h1 (hf.1 h).1⟩)

set_option maxRecDepth 100000 in
set_option maxHeartbeats 4000000 in
theorem txsShapes_any (k n0 n1 n2 : Int) (w : World) (hT : U8Tabs w) (hM : MaxLenAt w) (hE : ErrType w) :
    Calls Tryz.prog 3 #[.int .i64 k, .agg #[.int .i64 n0, .int .i64 n1, .int .i64 n2]] w (TruePost w) := by
  obtain ⟨j1, hj1, hz1, hs1, hy1⟩ := info_parts infoStrT
  obtain ⟨j2, hj2, hz2, hs2, hy2⟩ := info_parts infoIntT
  obtain ⟨j3, hj3, hz3, hs3, hy3⟩ := info_parts infoBtsT
  obtain ⟨a, ha, ea⟩ := seven n0
  obtain ⟨b, hb, eb⟩ := seven n1
  obtain ⟨c, hc, ec⟩ := seven n2
  have EA := Lib.hid ea
  have EB := Lib.hid eb
  have EC := Lib.hid ec
  clear ea eb ec
  have hV := below_alloc w (.cells #[.int .i64 n0, .int .i64 n1, .int .i64 n2] 22)
  go_enter Tryz.func3, Tryz.ntmps3
  go_upto_region 1 with fail
  have b0 := heap_alloc_new w (.cells #[.int .i64 n0, .int .i64 n1, .int .i64 n2] 22)
  have c0 := Lib.cell_of_heap b0 0
  have c1 := Lib.cell_of_heap b0 1
  have c2 := Lib.cell_of_heap b0 2
  generalize w.alloc (.cells #[.int .i64 n0, .int .i64 n1, .int .i64 n2] 22) = V at *
  go_region
  go_wp2_with fail
  rw [EA.out, EB.out, EC.out]
  have hVd := hV.drew
  clear EA EB EC hV b0 c0 c1 c2
  generalize V.drew = U at *
  refine (plain_any U).mono ?_
  rintro e w1 ⟨v, rfl, ⟨ms, sg, rfl, hm, hg⟩, hb1⟩
  obtain ⟨A1, d1, rfl⟩ := hm.form
  obtain ⟨A2, d2, rfl⟩ := hg.form
  have q1 := hVd.trans (hb1.mono hVd.size)
  clear hVd hb1 hm
  rw [show txV plainTx (.slice A1 plainTx.msgs.length d1) (.slice A2 plainTx.sign.length d2) = .agg #[.string (strOf [97, 110, 110]), .int .i64 0, .string (strOf [97, 116, 111, 109]), .int .i64 0, .slice A1 1 d1, .slice A2 0 d2] from rfl]
  replace hg : Bts w1 (.slice A2 0 d2) [] := hg
  go_upto_region 3 with fail
  have bx := heap_alloc_new w1 (.cells #[.string (strOf [97, 110, 110]), .int .i64 0, .string (strOf [97, 116, 111, 109]), .int .i64 0, .slice A1 1 d1, .slice A2 0 d2] 29)
  have qY := q1.trans ((below_alloc w1 (.cells #[.string (strOf [97, 110, 110]), .int .i64 0, .string (strOf [97, 116, 111, 109]), .int .i64 0, .slice A1 1 d1, .slice A2 0 d2] 29)).mono q1.size)
  have gY := hg.keep (below_alloc w1 (.cells #[.string (strOf [97, 110, 110]), .int .i64 0, .string (strOf [97, 116, 111, 109]), .int .i64 0, .slice A1 1 d1, .slice A2 0 d2] 29))
  have sY : w1.heap.size < (w1.alloc (.cells #[.string (strOf [97, 110, 110]), .int .i64 0, .string (strOf [97, 116, 111, 109]), .int .i64 0, .slice A1 1 d1, .slice A2 0 d2] 29)).heap.size := by rw [World.size_alloc]; omega
  clear hg
  generalize w1.alloc (.cells #[.string (strOf [97, 110, 110]), .int .i64 0, .string (strOf [97, 116, 111, 109]), .int .i64 0, .slice A1 1 d1, .slice A2 0 d2] 29) = Y at *
  have BX := Lib.hid bx
  clear bx
  have hZ := below_alloc Y (.cells #[.int .i64 k, .slice none 0 0, .slice none 0 0, .slice none 0 0] 35)
  have bZ := heap_alloc_new Y (.cells #[.int .i64 k, .slice none 0 0, .slice none 0 0, .slice none 0 0] 35)
  have BZ := Lib.hid bZ
  clear bZ
  go_upto_region 4 with fail
  generalize Y.alloc (.cells #[.int .i64 k, .slice none 0 0, .slice none 0 0, .slice none 0 0] 35) = Z at *
  go_wp2_with fail
  go_loopg [10] a (fun q s4 wq => ∃ (i : Nat) (T : Option Addr) (t : Nat), q + i = a ∧ s4 = .int .i64 (i : Int) ∧ Hid (wq.heap[Y.heap.size]? = some (.cells #[.int .i64 k, .slice T i t, .slice none 0 0, .slice none 0 0] 35 (0, 0))) ∧ wq.ownsRow (Y.heap.size + 1) 9 1 (.slice T i t) i (List.replicate i (.string ⟨#[]⟩)) ∧ Below Y.heap.size Y wq)
  case atStart => exact ⟨0, none, 0, by omega, rfl, BZ, World.ownsRow_nil _ _ _ _, hZ⟩
  case round =>
    clear BZ hZ
    obtain ⟨i, T, t, hi0, rfl, BZ, oT, hZ⟩ := hrel
    have gZ := (Array.getElem?_eq_some_iff.1 BZ.out).1
    have r0 : (0 : Int) ≤ (i : Int) := by omega
    by_cases hlt : i < a
    · have r1 : (i : Int) < (a : Int) := by omega
      have k1 := Lib.cell_of_heap BZ.out 1
      have l3 : i + 1 ≤ maxLen := by unfold maxLen; omega
      have l4 : (i + 1) * 16 ≤ 140737488355328 := by omega
      have oA := oT.alloc (.cells #[.string ⟨#[]⟩] 9)
      have rA : Row (wr.alloc (.cells #[.string ⟨#[]⟩] 9)) (.slice (some ⟨wr.heap.size, 0, none⟩) 1 1) 1 1 [.string ⟨#[]⟩] := Row.of_own (own_block (base := wr.heap.size) (heap_alloc_new wr _) (Nat.le_refl _) rfl (by decide))
      have bA : Y.heap.size + 1 ≤ (wr.alloc (.cells #[.string ⟨#[]⟩] 9)).heap.size := by rw [World.size_alloc]; omega
      go_wp2_with (at_builtin; refine wpList_append_row rfl _ _ 31 rfl (Y.heap.size + 1) 9 j1 (.string ⟨#[]⟩) 1 16 Tryz.underlying31 hj1 hz1 hs1 hy1 rfl (by decide) (.slice T i t) i (List.replicate i (.string ⟨#[]⟩)) rfl oA (.slice (some ⟨wr.heap.size, 0, none⟩) 1 1) 1 [.string ⟨#[]⟩] rfl rA (by simp [Value.oneCell']) l3 l4 bA ?_; intro T9 t9 w9 hown9 hgrow9 hat9; have hy9 := hgrow9.size; rw [World.size_alloc] at hy9; have hb9 := (hgrow9.block Y.heap.size (by rw [World.size_alloc]; omega) (fun e => by have := (oA.lt Y.heap.size e.symm).1; omega)).trans ((heap_alloc_old wr _ gZ).trans BZ.out); have n1 := Lib.cell_of_heap hb9 1; have nf := fun o => Lib.frozen_of_heap hb9 o; have HB9 := Lib.hid hb9; clear hb9)
      go_roundg (a - (i + 1))
      case measure => omega
      case rel =>
        refine ⟨i + 1, T9, t9, by omega, by go_num, Lib.hid (box_stored HB9.out rfl), ?_, ((hZ.alloc hZ.size _).grown hgrow9 (by rw [World.size_alloc]; omega) (fun q hk => by have := (oA.lt q hk).1; omega)).setCell (p := ⟨Y.heap.size, 1, none⟩) (Nat.le_refl _) _⟩
        rw [List.replicate_succ']
        exact own_stored hown9 (Nat.lt_succ_self _)
    · obtain rfl : a = i := by omega
      clear hlt
      go_wp2_with fail
      rename World => W1
      go_loopg [11] b (fun q s4 wq => ∃ (i' : Nat) (I : Option Addr) (u : Nat), q + i' = b ∧ s4 = .int .i64 (i' : Int) ∧ Hid (wq.heap[Y.heap.size]? = some (.cells #[.int .i64 k, .slice T a t, .slice I i' u, .slice none 0 0] 35 (0, 0))) ∧ wq.ownsRow (Y.heap.size + 1) 3 1 (.slice I i' u) i' (intsV (intsUp i')) ∧ wq.ownsRow (Y.heap.size + 1) 9 1 (.slice T a t) a (List.replicate a (.string ⟨#[]⟩)) ∧ Below Y.heap.size Y wq)
      case atStart => exact ⟨0, none, 0, by omega, rfl, BZ, World.ownsRow_nil _ _ _ _, oT, hZ⟩
      case round =>
        clear BZ hZ oT
        obtain ⟨i', I, u, hi1, rfl, BZ, oI, oT, hZ⟩ := hrel
        have gZ := (Array.getElem?_eq_some_iff.1 BZ.out).1
        have r0 : (0 : Int) ≤ (i' : Int) := by omega
        by_cases hlt : i' < b
        · have r1 : (i' : Int) < (b : Int) := by omega
          have k1 := Lib.cell_of_heap BZ.out 2
          have l3 : i' + 1 ≤ maxLen := by unfold maxLen; omega
          have l4 : (i' + 1) * 8 ≤ 140737488355328 := by omega
          have oA := oI.alloc (.cells #[.int .i64 (i' : Int)] 3)
          have rA : Row (wr.alloc (.cells #[.int .i64 (i' : Int)] 3)) (.slice (some ⟨wr.heap.size, 0, none⟩) 1 1) 1 1 [.int .i64 (i' : Int)] := Row.of_own (own_block (base := wr.heap.size) (heap_alloc_new wr _) (Nat.le_refl _) rfl (by decide))
          have bA : Y.heap.size + 1 ≤ (wr.alloc (.cells #[.int .i64 (i' : Int)] 3)).heap.size := by rw [World.size_alloc]; omega
          go_wp2_with (at_builtin; refine wpList_append_row rfl _ _ 32 rfl (Y.heap.size + 1) 3 j2 (.int .i64 0) 1 8 Tryz.underlying32 hj2 hz2 hs2 hy2 rfl (by decide) (.slice I i' u) i' (intsV (intsUp i')) rfl oA (.slice (some ⟨wr.heap.size, 0, none⟩) 1 1) 1 [.int .i64 (i' : Int)] rfl rA (by simp [Value.oneCell']) l3 l4 bA ?_; intro T9 t9 w9 hown9 hgrow9 hat9; have hy9 := hgrow9.size; rw [World.size_alloc] at hy9; have hb9 := (hgrow9.block Y.heap.size (by rw [World.size_alloc]; omega) (fun e => by have := (oA.lt Y.heap.size e.symm).1; omega)).trans ((heap_alloc_old wr _ gZ).trans BZ.out); have n1 := Lib.cell_of_heap hb9 2; have nf := fun o => Lib.frozen_of_heap hb9 o; have HB9 := Lib.hid hb9; clear hb9)
          go_roundg (b - (i' + 1))
          case measure => omega
          case rel =>
            refine ⟨i' + 1, T9, t9, by omega, by go_num, Lib.hid (box_stored HB9.out rfl), ?_, own_stored (own_other (oT.alloc _) oA (by decide) hgrow9) (Nat.lt_succ_self _), ((hZ.alloc hZ.size _).grown hgrow9 (by rw [World.size_alloc]; omega) (fun q hk => by have := (oA.lt q hk).1; omega)).setCell (p := ⟨Y.heap.size, 2, none⟩) (Nat.le_refl _) _⟩
            rw [intsUp_succ]
            exact own_stored hown9 (Nat.lt_succ_self _)
        · obtain rfl : b = i' := by omega
          clear hlt
          go_wp2_with fail
          rename World => W2
          go_loopg [12] c (fun q s4 wq => ∃ (i'' : Nat) (D : Option Addr) (x : Nat), q + i'' = c ∧ s4 = .int .i64 (i'' : Int) ∧ Hid (wq.heap[Y.heap.size]? = some (.cells #[.int .i64 k, .slice T a t, .slice I b u, .slice D i'' x] 35 (0, 0))) ∧ wq.ownsRow (Y.heap.size + 1) 27 1 (.slice D i'' x) i'' (List.replicate i'' (.slice none 0 0)) ∧ wq.ownsRow (Y.heap.size + 1) 9 1 (.slice T a t) a (List.replicate a (.string ⟨#[]⟩)) ∧ wq.ownsRow (Y.heap.size + 1) 3 1 (.slice I b u) b (intsV (intsUp b)) ∧ Below Y.heap.size Y wq)
          case atStart => exact ⟨0, none, 0, by omega, rfl, BZ, World.ownsRow_nil _ _ _ _, oT, oI, hZ⟩
          case round =>
            clear BZ hZ oT oI
            obtain ⟨i'', D, x, hi2, rfl, BZ, oD, oT, oI, hZ⟩ := hrel
            have gZ := (Array.getElem?_eq_some_iff.1 BZ.out).1
            have r0 : (0 : Int) ≤ (i'' : Int) := by omega
            by_cases hlt : i'' < c
            · have r1 : (i'' : Int) < (c : Int) := by omega
              have k1 := Lib.cell_of_heap BZ.out 3
              have l3 : i'' + 1 ≤ maxLen := by unfold maxLen; omega
              have l4 : (i'' + 1) * 24 ≤ 140737488355328 := by omega
              have oA := oD.alloc (.cells #[.slice none 0 0] 27)
              have rA : Row (wr.alloc (.cells #[.slice none 0 0] 27)) (.slice (some ⟨wr.heap.size, 0, none⟩) 1 1) 1 1 [.slice none 0 0] := Row.of_own (own_block (base := wr.heap.size) (heap_alloc_new wr _) (Nat.le_refl _) rfl (by decide))
              have bA : Y.heap.size + 1 ≤ (wr.alloc (.cells #[.slice none 0 0] 27)).heap.size := by rw [World.size_alloc]; omega
              go_wp2_with (at_builtin; refine wpList_append_row rfl _ _ 33 rfl (Y.heap.size + 1) 27 j3 (.slice none 0 0) 1 24 Tryz.underlying33 hj3 hz3 hs3 hy3 rfl (by decide) (.slice D i'' x) i'' (List.replicate i'' (.slice none 0 0)) rfl oA (.slice (some ⟨wr.heap.size, 0, none⟩) 1 1) 1 [.slice none 0 0] rfl rA (by simp [Value.oneCell']) l3 l4 bA ?_; intro T9 t9 w9 hown9 hgrow9 hat9; have hy9 := hgrow9.size; rw [World.size_alloc] at hy9; have hb9 := (hgrow9.block Y.heap.size (by rw [World.size_alloc]; omega) (fun e => by have := (oA.lt Y.heap.size e.symm).1; omega)).trans ((heap_alloc_old wr _ gZ).trans BZ.out); have n1 := Lib.cell_of_heap hb9 3; have nf := fun o => Lib.frozen_of_heap hb9 o; have HB9 := Lib.hid hb9; clear hb9)
              go_roundg (c - (i'' + 1))
              case measure => omega
              case rel =>
                refine ⟨i'' + 1, T9, t9, by omega, by go_num, Lib.hid (box_stored HB9.out rfl), ?_, own_stored (own_other (oT.alloc _) oA (by decide) hgrow9) (Nat.lt_succ_self _), own_stored (own_other (oI.alloc _) oA (by decide) hgrow9) (Nat.lt_succ_self _), ((hZ.alloc hZ.size _).grown hgrow9 (by rw [World.size_alloc]; omega) (fun q hk => by have := (oA.lt q hk).1; omega)).setCell (p := ⟨Y.heap.size, 3, none⟩) (Nat.le_refl _) _⟩
                rw [List.replicate_succ']
                exact own_stored hown9 (Nat.lt_succ_self _)
            · obtain rfl : c = i'' := by omega
              clear hlt
              have k0 := Lib.cell_of_heap BZ.out 0
              have k1 := Lib.cell_of_heap BZ.out 1
              have k2 := Lib.cell_of_heap BZ.out 2
              have k3 := Lib.cell_of_heap BZ.out 3
              have bX := (hZ.block _ sY).trans BX.out
              have gX := (Array.getElem?_eq_some_iff.1 bX).1
              have x4 := Lib.cell_of_heap bX 4
              have xf := fun o => Lib.frozen_of_heap bX o
              have HBX := Lib.hid bX
              clear bX
              go_upto_region 17 with fail
              have sG : (wr.setCell ⟨w1.heap.size, 4, none⟩ (.slice (some ⟨wr.heap.size, 0, none⟩) 1 1)).heap.size = wr.heap.size := by simp [World.setCell]
              have xb := (heap_alloc_old (wr.setCell ⟨w1.heap.size, 4, none⟩ (.slice (some ⟨wr.heap.size, 0, none⟩) 1 1)) (.cells #[.int .i64 k, .slice T a t, .slice I b u, .slice D c x] 35) (show w1.heap.size < _ by rw [sG]; exact gX)).trans (box_stored (i := 4) (u := .slice (some ⟨wr.heap.size, 0, none⟩) 1 1) HBX.out rfl)
              have mb := heap_alloc_new (wr.setCell ⟨w1.heap.size, 4, none⟩ (.slice (some ⟨wr.heap.size, 0, none⟩) 1 1)) (.cells #[.int .i64 k, .slice T a t, .slice I b u, .slice D c x] 35)
              rw [sG] at mb
              have pT := (own_stored (k := w1.heap.size) (i := 4) (u := .slice (some ⟨wr.heap.size, 0, none⟩) 1 1) oT (by omega)).alloc (.cells #[.int .i64 k, .slice T a t, .slice I b u, .slice D c x] 35)
              have pI := (own_stored (k := w1.heap.size) (i := 4) (u := .slice (some ⟨wr.heap.size, 0, none⟩) 1 1) oI (by omega)).alloc (.cells #[.int .i64 k, .slice T a t, .slice I b u, .slice D c x] 35)
              have pD := (own_stored (k := w1.heap.size) (i := 4) (u := .slice (some ⟨wr.heap.size, 0, none⟩) 1 1) oD (by omega)).alloc (.cells #[.int .i64 k, .slice T a t, .slice I b u, .slice D c x] 35)
              have qX := ((qY.trans (hZ.mono qY.size)).setCell (p := ⟨w1.heap.size, 4, none⟩) q1.size (.slice (some ⟨wr.heap.size, 0, none⟩) 1 1)).alloc (by rw [sG]; exact (qY.trans (hZ.mono qY.size)).size) (.cells #[.int .i64 k, .slice T a t, .slice I b u, .slice D c x] 35)
              have tX := shapes_tx (k := k) (A2 := A2) (d2 := d2) pT pI pD mb gY
              clear oT oI oD hZ BZ HBX k0 k1 k2 k3 x4 xf gX qY gY q1 sY BX pT pI pD mb
              generalize (wr.setCell ⟨w1.heap.size, 4, none⟩ (.slice (some ⟨wr.heap.size, 0, none⟩) 1 1)).alloc (.cells #[.int .i64 k, .slice T a t, .slice I b u, .slice D c x] 35) = X at *
              have cC := fun W (h : Below X.heap.size X W) => txCheck_any _ _ W (tX.keep h) (shapes_small ha hb hc) (Utf8Tabs_below hT (qX.trans (h.mono qX.size))) (hM.keep (qX.trans (h.mono qX.size)))
              have xc := fun W (h : Below X.heap.size X W) => (h.block _ (Array.getElem?_eq_some_iff.1 xb).1).trans xb
              have XC := Lib.hid xc
              clear xb tX xc
              go_wp2_with fail
              refine (shape_any k X).mono ?_
              rintro e w2 ⟨rfl, hb2⟩
              have q2 := qX.trans (hb2.mono qX.size)
              have cD := cC _ hb2
              have xb := XC.out _ hb2
              have c0 := Lib.cell_of_heap xb 0
              have c1 := Lib.cell_of_heap xb 1
              have c2 := Lib.cell_of_heap xb 2
              have c3 := Lib.cell_of_heap xb 3
              have c4 := Lib.cell_of_heap xb 4
              have c5 := Lib.cell_of_heap xb 5
              clear XC cC xb hb2 qX
              unfold ErrPost at cD
              have hw := shapes_ways k a b c
              generalize txN (shapesTx k a b c) = N at *
              generalize shapeF k = S at *
              rcases hw with ⟨k1, k2, s1, s2, s3, rfl⟩ | ⟨k1, rfl, rfl⟩ | ⟨k1, k2, rfl, rfl⟩ | ⟨k1, k2, s1, rfl⟩ | ⟨k1, k2, s1, s2, rfl⟩ | ⟨k1, k2, s1, s2, s3, rfl⟩
              all_goals
                try have hbq : ((c : Int) == (S.2.2 : Int)) = false := by simpa using s3
                go_wp2_with fail
                refine cD.mono ?_
                rintro e w3 ⟨ev, rfl, hE3, hb3⟩
                have q3 := q2.trans (hb3.mono q2.size)
                clear cD c0 c1 c2 c3 c4 c5 hb3
              · obtain rfl := hE3.zero
                go_wp2_with fail
                refine (txSure_any w3 (Utf8Tabs_below hT q3) (hM.keep q3)).mono ?_
                rintro e w4 ⟨rfl, hb4⟩
                go_wp2_with fail
                go_ret
                exact ⟨rfl, q3.trans (hb4.mono q3.size)⟩
              all_goals
                obtain ⟨tt, yy, rfl⟩ := hE3.iface (by decide)
                go_wp2_with fail
                refine (num_any _ 1 w3 hE3 ((q3.cell (cell_lt hE)).trans hE)).mono ?_
                rintro e w4 ⟨rfl, hb4⟩
                have q4 := q3.trans (hb4.mono q3.size)
                go_wp2_with fail
                refine (txSure_any w4 (Utf8Tabs_below hT q4) (hM.keep q4)).mono ?_
                rintro e w5 ⟨rfl, hb5⟩
                go_wp2_with fail
                go_ret
                exact ⟨rfl, q4.trans (hb5.mono q4.size)⟩
end Go.Proofs.YteajgnoimbdkbaaGreatDoor

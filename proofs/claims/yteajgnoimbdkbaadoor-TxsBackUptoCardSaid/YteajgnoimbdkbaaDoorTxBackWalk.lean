/- The walk of the law TxsBack. -/
import Derived.Test.YteajgnoimbdkbaaDoorTxLen
import Derived.Test.YteajgnoimbdkbaaDoorTxSure
import Derived.Test.YteajgnoimbdkbaaDoorTxSame
import Derived.Test.YteajgnoimbdkbaaDoorTxGive
import Derived.Deep.DeepCutAuto
namespace Go.Proofs.YteajgnoimbdkbaaDoor
open Go.RowKit

theorem OwnMsgs.frame {B : Nat} {w w' : World} {v : Value} {l : List MsgD} (h : OwnMsgs B w v l) (hf : ∀ k, B ≤ k → k < w.heap.size → w'.heap[k]? = w.heap[k]?) : OwnMsgs B w' v l := by
  have key : ∀ {e s n v xs}, w.ownsRow B e s v n xs → w'.ownsRow B e s v n xs := by
    intro e s n v xs h
    obtain ⟨h1, h2⟩ := h
    refine ⟨h1, h2.imp id ?_⟩
    rintro ⟨g, cap, cur, rfl, hg, hh, r⟩
    exact ⟨g, cap, cur, rfl, hg, (hf g hg (Array.getElem?_eq_some_iff.1 hh).1).trans hh, r⟩
  obtain ⟨ms, h1, h0, h2⟩ := h
  refine ⟨ms, key h1, h0, fun j p m hp hm => ?_⟩
  obtain ⟨o0, o1, o2, vs, d1, d0, d2⟩ := h2 j p m hp hm
  exact ⟨o0, key o1, key o2, vs, key d1, d0, fun q u b hu hb => key (d2 q u b hu hb)⟩
theorem strOf_toList (l : List UInt8) : (strOf l).toList = l := by rw [Lib.toList_data, strOf_list]
theorem toList_inj {a b : ByteArray} (h : a.toList = b.toList) : a = b := by
  rw [Lib.toList_data, Lib.toList_data] at h
  rw [← strOf_of a, h, strOf_of]
theorem alloc2_old (w : World) (o1 o2 : Obj) : ((w.alloc o1).alloc o2).heap[w.heap.size]? = some o1 := by rw [heap_alloc_old _ _ (by simp), heap_alloc_new]
theorem cellsL_snoc (l : List UInt8) : cellsL l ++ [.int .u8 1] = cellsL (l ++ [1]) := by simp [cellsL]
theorem own_storedT {w : World} {B e s n k i : Nat} {v u : Value} {xs : List Value} (h : w.ownsRow B e s v n xs) {cs : Array Value} {t : TypeId} {fz : Nat × Nat} (hk : w.heap[k]? = some (.cells cs t fz)) (hne : e ≠ t) : (w.setCell ⟨k, i, none⟩ u).ownsRow B e s v n xs :=
  h.kept (row := some k) (grown_put _ _ _ _) (.inr fun he => own_row_type h hne k he cs fz hk)
theorem OwnMsgs.storedT {B k i : Nat} {w : World} {v u : Value} {l : List MsgD} (h : OwnMsgs B w v l) {cs : Array Value} {fz : Nat × Nat} (hk : w.heap[k]? = some (.cells cs 34 fz)) : OwnMsgs B (w.setCell ⟨k, i, none⟩ u) v l := by
  obtain ⟨ms, h1, h0, h2⟩ := h
  refine ⟨ms, own_storedT h1 hk (by decide), h0, fun j p m hp hm => ?_⟩
  obtain ⟨o0, o1, o2, vs, d1, d0, d2⟩ := h2 j p m hp hm
  exact ⟨o0, own_storedT o1 hk (by decide), own_storedT o2 hk (by decide), vs, own_storedT d1 hk (by decide), d0, fun q u b hu hb => own_storedT (d2 q u b hu hb) hk (by decide)⟩
/-- y behind the append to its signature. -/
theorem y_at {x : TxD} {w6 w7 w9 : World} {o1 o2 : Obj} {B7 B8 A9 : Option Addr} {d7 d8 c9 Bm : Nat} (g7 : OwnMsgs Bm w7 (.slice B7 x.msgs.length d7) x.msgs) (g8 : w7.ownsRow w6.heap.size 5 1 (.slice B8 x.sign.length d8) x.sign.length (cellsL x.sign)) (glow : ∀ k, (Value.slice B8 x.sign.length d8).ownBlock = some k → k < Bm)
    (hown : w9.ownsRow w6.heap.size 5 1 (.slice A9 (x.sign.length + 1) c9) (x.sign.length + 1) (cellsL x.sign ++ [.int .u8 1])) (hgrow : ((w7.alloc o1).alloc o2).grownBy w9 (Value.slice B8 x.sign.length d8).ownBlock)
    (hat : (Value.slice A9 (x.sign.length + 1) c9).ownBlock = (Value.slice B8 x.sign.length d8).ownBlock ∨ (Value.slice A9 (x.sign.length + 1) c9).ownBlock = some ((w7.alloc o1).alloc o2).heap.size) (u : Value) :
    OwnMsgs Bm (w9.setCell ⟨w7.heap.size, 5, none⟩ u) (.slice B7 x.msgs.length d7) x.msgs ∧ (w9.setCell ⟨w7.heap.size, 5, none⟩ u).ownsRow w6.heap.size 5 1 (.slice A9 (x.sign.length + 1) c9) (x.sign ++ [1]).length (cellsL (x.sign ++ [1])) := by
  refine ⟨g7.frame fun k hk hk2 => ?_, ?_⟩
  · rw [Below.heap_setCell _ _ _ _ (by simp; omega)]
    refine (hgrow.block k (by rw [World.size_alloc, World.size_alloc]; omega) (fun e => by have := glow k e.symm; omega)).trans ?_
    rw [heap_alloc_old _ _ (by rw [World.size_alloc]; omega), heap_alloc_old _ _ hk2]
  · rw [List.length_append, ← cellsL_snoc]
    refine hown.kept (row := some w7.heap.size) (grown_put _ _ _ _) (.inr ?_)
    rcases hat with h | h <;> rw [h]
    · intro e
      have := (g8.lt _ e).2
      omega
    · rw [World.size_alloc, World.size_alloc]
      intro e
      have := Option.some.inj e
      omega
theorem GivePost.tx {x : TxD} {w w' : World} {A1 c1 A2 c2 B2} (h1 : OwnMsgs B2 w' (.slice A1 x.msgs.length c1) x.msgs) (h2 : w'.ownsRow w.heap.size 5 1 (.slice A2 x.sign.length c2) x.sign.length (cellsL x.sign)) : TxAt w' (txV x (.slice A1 x.msgs.length c1) (.slice A2 x.sign.length c2)) x := ⟨_, _, rfl, h1.at, Row.of_own h2⟩

set_option maxRecDepth 100000 in
set_option maxHeartbeats 8000000 in
theorem txsBack_any (v : Value) (x : TxD) (ch ot : ByteArray) (w : World) (hx : TxAt w v x) (hw : txW x ≤ 1048570) (hi : TxInts x) (hc : ch.size ≤ 1048576) (ho : ot.size ≤ 1048576) (hT : U8Tabs w) (hM : MaxLenAt w) :
    Calls Tryd.prog 3 #[.string ch, .string ot, v] w (TruePost w) := by
  have hs := small_of (x := x) (by omega)
  obtain ⟨i0, hi0, hz0, hz1, hz2⟩ := info_parts infoU8w
  have hcl := size_list ch
  have hol := size_list ot
  have hsq := xor_one hi.1
  have hsa := xor_one hi.2.1
  have cBy : ∀ (y : TxD), txW y ≤ 1048576 → TxInts y → ∀ c : ByteArray, c.size ≤ 1048576 → ∀ W u, TxAt W u y → Calls Tryd.prog 8 #[.string c, u] W (BtsPost (signedL c.data.toList y) W) := fun y hy hyi c hcs W u hu => txBytes_any u y c W hu (small_of hy) hyi (by
    have := signedL_len (c := c.data.toList) (x := y) (by omega) (by have := size_list c; omega) hyi
    have := size_list c
    omega)
  unfold BtsPost at cBy
  have cG : ∀ W, Below w.heap.size w W → Calls Tryd.prog 5 #[v] W (GivePost x W) := fun W hW => txGive_any v x W (hx.keep hW) hs
  have cE : ∀ W u, Below w.heap.size w W → TxAt W u x → Calls Tryd.prog 4 #[u] W (EncPost (encF x) W) := fun W u hW hu => encode_any u x W hu hs hi (by have := encL_len (x := x) (by omega) hi; omega) (Utf8Tabs_below hT hW) (hM.keep hW)
  obtain ⟨ms, sg, rfl, h1, h2⟩ := id hx
  obtain ⟨A1, c1, rfl⟩ := h1.form
  obtain ⟨A2, c2, rfl⟩ := h2.form
  unfold GivePost at cG
  unfold EncPost at cE
  unfold txV at *
  have hb0 := below_alloc w (.cells #[.string (strOf x.account), .int .i64 x.seq, .string (strOf x.denom), .int .i64 x.amount, .slice A1 x.msgs.length c1, .slice A2 x.sign.length c2] 27)
  have KB : ∀ W, Below (w.alloc (.cells #[.string (strOf x.account), .int .i64 x.seq, .string (strOf x.denom), .int .i64 x.amount, .slice A1 x.msgs.length c1, .slice A2 x.sign.length c2] 27)).heap.size (w.alloc (.cells #[.string (strOf x.account), .int .i64 x.seq, .string (strOf x.denom), .int .i64 x.amount, .slice A1 x.msgs.length c1, .slice A2 x.sign.length c2] 27)) W → _ := fun W hW => Six.cells (w := w) (w2 := W) (hW.mono (by simp))
  have KH := Lib.hid KB
  clear KB
  go_enter Tryd.func3, Tryd.ntmps3
  go_wp2_with fail
  generalize w.alloc (.cells #[.string (strOf x.account), .int .i64 x.seq, .string (strOf x.denom), .int .i64 x.amount, .slice A1 x.msgs.length c1, .slice A2 x.sign.length c2] 27) = V at *
  refine (cG _ hb0).mono ?_
  rintro e w1 ⟨B1, d1, B2, d2, b1, rfl, g1, g2, -, -, hb1⟩
  have t1 := GivePost.tx g1 g2
  unfold txV at t1
  have q1 := hb0.trans (hb1.mono hb0.size)
  go_wp2_with fail
  refine (cE _ _ q1 t1).mono ?_
  rintro e w2 ⟨Ae, ce, ev, rfl, hB2, hE2, hb2⟩
  have q2 := q1.trans (hb2.mono q1.size)
  have q0 := hb1.trans (hb2.mono hb1.size)
  have cDe : (encF x).2 = 0 → ∀ W u, Below w.heap.size w W → Bts W u (encF x).1 → Calls Tryd.prog 6 #[u] W (DecPost (x, 0) W) := fun he W u hW hu => by
    unfold encF at he hu
    split at he
    · rename_i hne; exact absurd he hne
    · rename_i hz
      rw [if_neg hz] at hu
      split at he
      · simp at he
      · rename_i hl
        rw [if_neg hl] at hu
        have hz0 : txN x = 0 := by simpa using hz
        have := decode_any u _ W hu (by simp only; omega) (Utf8Tabs_below hT hW) (hM.keep hW)
        simp only at this
        rwa [dec_enc hz0 hi (by omega)] at this
  have cS : ∀ W a b, TxAt W a x → TxAt W b x → Calls Tryd.prog 7 #[a, b] W (TruePost W) := fun W a b ha hb => txSame_any a b x W ha hb hs
  unfold DecPost at cDe
  generalize encF x = E at *
  obtain ⟨Eb, En⟩ := E
  simp only at *
  by_cases he : En = 0
  case' pos =>
      subst he
      obtain rfl := hE2.zero
      have cD := cDe rfl _ _ q2 hB2
      go_wp2_with fail
      refine cD.mono ?_
      rintro e w3 ⟨u3, ev3, rfl, ht3, hE3, hb3⟩
      obtain rfl := hE3.zero
      obtain ⟨ms3, sg3, rfl, hm3, hs3⟩ := id ht3
      obtain ⟨A3, c3, rfl⟩ := hm3.form
      obtain ⟨A4, c4, rfl⟩ := hs3.form
      have q3 := q2.trans (hb3.mono q2.size)
      have q03 := q0.trans (hb3.mono q0.size)
      obtain ⟨k0, k1, k2, k3, k4, k5⟩ := KH.out _ q03
      have hlt3 := cell_lt k0
      have hb3a := below_alloc w3 (.cells #[.string (strOf x.account), .int .i64 x.seq, .string (strOf x.denom), .int .i64 x.amount, .slice A3 x.msgs.length c3, .slice A4 x.sign.length c4] 34)
      have cSS := cS _ _ _ (ht3.keep hb3a) (hx.keep (q3.trans (hb3a.mono q3.size)))
      unfold txV at *
      go_wp2_with fail
      refine cSS.mono ?_
      rintro e wx ⟨rfl, hb4⟩
      have qx := (q03.trans (hb3a.mono q03.size)).trans (hb4.mono (Nat.le_trans q03.size hb3a.size))
      clear hb4 hb3a q3 q03 k0 k1 k2 k3 k4 k5 cSS cD
  case' neg =>
      obtain ⟨tt, yy, rfl⟩ := hE2.iface he
      rename World => wx
      have qx := q0
  all_goals
    clear hB2 hE2 cDe cS q0 q2 hb2 g1 g2 t1 cE q1
    obtain ⟨k0, k1, k2, k3, k4, k5⟩ := KH.out _ qx
    have p0 := hb0.trans (qx.mono hb0.size)
    go_wp2_with fail
    refine (cG _ p0).mono ?_
    rintro e w5 ⟨B5, d5, B6, d6, b5, rfl, g5, g6, -, -, hb5⟩
    have t5 := GivePost.tx g5 g6
    have p5 := p0.trans (hb5.mono p0.size)
    have r5 := qx.trans (hb5.mono qx.size)
    unfold txV at t5
    go_wp2_with fail
    refine (cBy x (by omega) hi ch hc _ _ t5).mono ?_
    rintro e w6 ⟨A6, c6, rfl, hB6, hb6⟩
    have p6 := p5.trans (hb6.mono p5.size)
    have r6 := r5.trans (hb6.mono r5.size)
    have hv6 := conv_text hB6
    clear k0 k1 k2 k3 k4 k5
    obtain ⟨k0, k1, k2, k3, k4, k5⟩ := KH.out _ r6
    go_wp2_with fail
    refine (cG _ p6).mono ?_
    rintro e w7 ⟨B7, d7, B8, d8, Bm, rfl, g7, g8, glow, gB, hb7⟩
    have p7 := p6.trans (hb7.mono p6.size)
    have r7 := r6.trans (hb7.mono r6.size)
    have oa : ∀ o1 o2, ((w7.alloc o1).alloc o2).ownsRow w6.heap.size 5 1 (.slice B8 x.sign.length d8) x.sign.length (cellsL x.sign) := fun o1 o2 => (g8.alloc o1).alloc o2
    have rw1 : ∀ o1, Row ((w7.alloc o1).alloc (.cells #[.int .u8 1] 5)) (.slice (some ⟨w7.heap.size + 1, 0, none⟩) 1 1) 1 1 [.int .u8 1] := fun o1 => Row.of_own (own_block (base := 0) (by have := heap_alloc_new (w7.alloc o1) (.cells #[.int .u8 1] 5); rwa [World.size_alloc] at this) (Nat.zero_le _) rfl (by decide))
    have bs : ∀ o1 o2, w6.heap.size ≤ ((w7.alloc o1).alloc o2).heap.size := fun o1 o2 => by rw [World.size_alloc, World.size_alloc]; have := hb7.size; omega
    have hsl : x.sign.length ≤ 1048576 := by unfold txW at hw; omega
    have l1 : x.sign.length + 1 ≤ maxLen := by unfold maxLen; omega
    have l2 : (x.sign.length + 1) * 1 ≤ 140737488355328 := by omega
    have OA := Lib.hid oa
    have RW := Lib.hid rw1
    have BS := Lib.hid bs
    clear k0 k1 k2 k3 k4 k5 oa rw1 bs
    go_wp2_with (at_builtin; refine wpList_append_row rfl _ _ 25 rfl w6.heap.size 5 i0 (.int .u8 0) 1 1 Tryd.underlying25 hi0 hz0 hz1 hz2 rfl (by decide) (.slice B8 x.sign.length d8) x.sign.length (cellsL x.sign) rfl (OA.out _ _) (.slice (some ⟨w7.heap.size + 1, 0, none⟩) 1 1) 1 [.int .u8 1] rfl (RW.out _) (by simp [Value.oneCell']) l1 l2 (BS.out _ _) ?_; intro A9 c9 w9 hown9 hgrow9 hat9; have hb9 := (hgrow9.block w7.heap.size (by rw [World.size_alloc, World.size_alloc]; omega) (fun e => by have := (g8.lt _ e.symm).2; omega)).trans (alloc2_old _ _ _); have d0 := Lib.cell_of_heap hb9 0; have d1 := Lib.cell_of_heap hb9 1; have d2 := Lib.cell_of_heap hb9 2; have d3 := Lib.cell_of_heap hb9 3; have d4 := Lib.cell_of_heap hb9 4; have d5 := Lib.cell_of_heap hb9 5; have ff := fun o => Lib.frozen_of_heap hb9 o; have HB9 := Lib.hid hb9; clear hb9)
    obtain ⟨m10, s10⟩ := y_at g7 g8 glow hown9 hgrow9 hat9 (.slice A9 (x.sign.length + 1) c9)
    have bx10 := box_stored (i := 5) (u := .slice A9 (x.sign.length + 1) c9) HB9.out rfl
    have h9w7 : Below w6.heap.size w7 w9 := (((Below.refl _ w7).alloc hb7.size _).alloc (by rw [World.size_alloc]; have := hb7.size; omega) _).grown hgrow9 (BS.out _ _) (fun k hk => (g8.lt k hk).1)
    have h610 := (hb7.trans h9w7).setCell (p := ⟨w7.heap.size, 5, none⟩) hb7.size (.slice A9 (x.sign.length + 1) c9)
    clear d0 d1 d2 d3 d4 d5 ff HB9 OA RW BS h9w7 hown9 hgrow9 hat9 g7 g8
    have hgy : w6.heap.size ≤ w7.heap.size := hb7.size
    clear hb7
    generalize w9.setCell ⟨w7.heap.size, 5, none⟩ (.slice A9 (x.sign.length + 1) c9) = W at *
    generalize w7.heap.size = gy at *
    have t10 : TxAt W (.agg #[.string (strOf x.account), .int .i64 x.seq, .string (strOf x.denom), .int .i64 x.amount, .slice B7 x.msgs.length d7, .slice A9 (x.sign.length + 1) c9]) { x with sign := x.sign ++ [1] } := ⟨_, _, rfl, m10.at, Row.of_own s10⟩
    have hw1 : txW { x with sign := x.sign ++ [1] } ≤ 1048576 := by unfold txW at *; simp only [List.length_append, List.length_cons, List.length_nil]; omega
    have p10 := p6.trans (h610.mono p6.size)
    have r10 := r6.trans (h610.mono r6.size)
    have cB1 := cBy _ hw1 hi ch hc _ _ t10
    rw [signed_sign] at cB1
    refine cB1.mono ?_
    rintro e w11 ⟨A11, c11, rfl, hB11, hb11⟩
    have hv11 := conv_text hB11
    have m11 := m10.below hb11
    have s11 := own_belowW s10 hb11
    have bx11 := (hb11.block gy (Array.getElem?_eq_some_iff.1 bx10).1).trans bx10
    have p11 := p10.trans (hb11.mono p10.size)
    have r11 := r10.trans (hb11.mono r10.size)
    have d1 := Lib.cell_of_heap bx11 1
    have ff := Lib.frozen_of_heap bx11 1
    have hgyV : V.heap.size ≤ gy := Nat.le_trans r6.size hgy
    have hgyw : w.heap.size ≤ gy := Nat.le_trans p6.size hgy
    have hgy11 := (Array.getElem?_eq_some_iff.1 bx11).1
    obtain ⟨k0, k1, k2, k3, k4, k5⟩ := KH.out _ r11
    have hkw := cell_lt k0
    have BX11 := Lib.hid bx11
    clear bx11 bx10 m10 s10 t10 p10 r10 hb11 h610 cB1
    have r12 := r11.setCell (p := ⟨gy, 1, none⟩) hgyV (.int .i64 (bits .xor .i64 x.seq 1))
    have p12 := p11.setCell (p := ⟨gy, 1, none⟩) hgyw (.int .i64 (bits .xor .i64 x.seq 1))
    have m12 := m11.storedT (i := 1) (u := .int .i64 (bits .xor .i64 x.seq 1)) BX11.out
    have s12 := own_storedT (i := 1) (u := .int .i64 (bits .xor .i64 x.seq 1)) s11 BX11.out (by decide)
    have bx12 := box_stored (i := 1) (u := .int .i64 (bits .xor .i64 x.seq 1)) BX11.out rfl
    have BX12 := Lib.hid bx12
    clear bx12 m11 s11
    have hVw : w.heap.size < V.heap.size := cell_lt (KH.out _ (Below.refl _ _)).1
    have hgne : ¬gy = w.heap.size := by omega
    have hgne2 : ¬w.heap.size = gy := by omega
    go_wp2_with fail
    refine (cG _ p12).mono ?_
    rintro e w13 ⟨B13, d13, B14, d14, b13, rfl, g13, g14, -, -, hb13⟩
    have p13 := p12.trans (hb13.mono p12.size)
    have r13 := r12.trans (hb13.mono r12.size)
    have t13 := GivePost.tx g13 g14
    unfold txV at t13
    have m13 := m12.below hb13
    have s13 := own_belowW s12 hb13
    have bx13 := (hb13.block gy (Array.getElem?_eq_some_iff.1 BX12.out).1).trans BX12.out
    have hgy13 := (Array.getElem?_eq_some_iff.1 bx13).1
    have hba := below_alloc w13 (.cells #[.string (strOf x.account), .int .i64 x.seq, .string (strOf x.denom), .int .i64 (bits .xor .i64 x.amount 1), .slice B13 x.msgs.length d13, .slice B14 x.sign.length d14] 34)
    have bxz := heap_alloc_new w13 (.cells #[.string (strOf x.account), .int .i64 x.seq, .string (strOf x.denom), .int .i64 (bits .xor .i64 x.amount 1), .slice B13 x.msgs.length d13, .slice B14 x.sign.length d14] 34)
    have m14 := m13.below hba
    have s14 := own_belowW s13 hba
    have bx14 := (hba.block gy hgy13).trans bx13
    have p14 := p13.trans (hba.mono p13.size)
    have r14 := r13.trans (hba.mono r13.size)
    obtain ⟨ms13, sg13, e13, hm13, hs13⟩ := t13.keep hba
    have tz : TxAt (w13.alloc (.cells #[.string (strOf x.account), .int .i64 x.seq, .string (strOf x.denom), .int .i64 (bits .xor .i64 x.amount 1), .slice B13 x.msgs.length d13, .slice B14 x.sign.length d14] 34)) (.agg #[.string (strOf x.account), .int .i64 x.seq, .string (strOf x.denom), .int .i64 (bits .xor .i64 x.amount 1), .slice B13 x.msgs.length d13, .slice B14 x.sign.length d14]) { x with amount := bits .xor .i64 x.amount 1 } := ⟨_, _, rfl, (g13.below hba).at, Row.of_own (own_belowW g14 hba)⟩
    have ty : TxAt (w13.alloc (.cells #[.string (strOf x.account), .int .i64 x.seq, .string (strOf x.denom), .int .i64 (bits .xor .i64 x.amount 1), .slice B13 x.msgs.length d13, .slice B14 x.sign.length d14] 34)) (.agg #[.string (strOf x.account), .int .i64 (bits .xor .i64 x.seq 1), .string (strOf x.denom), .int .i64 x.amount, .slice B7 x.msgs.length d7, .slice A9 (x.sign.length + 1) c9]) { { x with sign := x.sign ++ [1] } with seq := bits .xor .i64 x.seq 1 } := ⟨_, _, rfl, m14.at, Row.of_own s14⟩
    have hiy : TxInts { { x with sign := x.sign ++ [1] } with seq := bits .xor .i64 x.seq 1 } := ⟨hsq.1, hi.2.1, hi.2.2⟩
    have hiz : TxInts { x with amount := bits .xor .i64 x.amount 1 } := ⟨hi.1, hsa.1, hi.2.2⟩
    have cBy2 := cBy { { x with sign := x.sign ++ [1] } with seq := bits .xor .i64 x.seq 1 } hw1 hiy ch hc _ _ ty
    have cBz := fun W hW => cBy { x with amount := bits .xor .i64 x.amount 1 } (by show txW x ≤ _; omega) hiz ch hc W _ (tz.keep hW)
    have ney : ¬(strOf (signedL ch.data.toList x)).toList = (strOf (signedL ch.data.toList { { x with sign := x.sign ++ [1] } with seq := bits .xor .i64 x.seq 1 })).toList := fun e => hsq.2 (signed_seq (c := ch.data.toList) (x := x) hi.1 hsq.1 (strOf_inj (toList_inj e))).symm
    have nez : ¬(strOf (signedL ch.data.toList x)).toList = (strOf (signedL ch.data.toList { x with amount := bits .xor .i64 x.amount 1 })).toList := fun e => hsa.2 (signed_amount (c := ch.data.toList) (x := x) hi.2.1 hsa.1 (strOf_inj (toList_inj e))).symm
    have e0 := Lib.cell_of_heap bx13 0
    have e1 := Lib.cell_of_heap bx13 1
    have e2 := Lib.cell_of_heap bx13 2
    have e3 := Lib.cell_of_heap bx13 3
    have e4 := Lib.cell_of_heap bx13 4
    have e5 := Lib.cell_of_heap bx13 5
    have BX14 := Lib.hid bx14
    have BXZ := Lib.hid bxz
    clear g13 g14 m12 s12 m13 s13 bx13 bxz bx14 t13 e13 hm13 hs13 m14 s14 ty k0 k1 k2 k3 k4 k5 d1 ff hiy hiz
    clear ms13 sg13
    go_wp2_with fail
    generalize w13.alloc (.cells #[.string (strOf x.account), .int .i64 x.seq, .string (strOf x.denom), .int .i64 (bits .xor .i64 x.amount 1), .slice B13 x.msgs.length d13, .slice B14 x.sign.length d14] 34) = U at *
    generalize signedL ch.data.toList { { x with sign := x.sign ++ [1] } with seq := bits .xor .i64 x.seq 1 } = Ly at *
    generalize signedL ch.data.toList { x with amount := bits .xor .i64 x.amount 1 } = Lz at *
    have hLo : (ch = ot) = (strOf (signedL ch.data.toList x) = strOf (signedL ot.data.toList x)) := by
      apply propext
      constructor
      · rintro rfl; rfl
      · intro e
        have := (signed_chain (x := x) (by omega) (by omega)).1 (strOf_inj e)
        rw [← strOf_of ch, this, strOf_of]
    have cBo := fun W u hu => cBy x (by omega) hi ot ho W u hu
    generalize signedL ch.data.toList x = Lx at *
    generalize signedL ot.data.toList x = Lo at *
    refine cBy2.mono ?_
    rintro e w15 ⟨A15, c15, rfl, hB15, hb15⟩
    have hv15 := conv_text hB15
    have p15 := p14.trans (hb15.mono p14.size)
    have r15 := r14.trans (hb15.mono r14.size)
    have z15 := (hb15.block _ (Array.getElem?_eq_some_iff.1 BXZ.out).1).trans BXZ.out
    have z0 := Lib.cell_of_heap z15 0
    have z1 := Lib.cell_of_heap z15 1
    have z2 := Lib.cell_of_heap z15 2
    have z3 := Lib.cell_of_heap z15 3
    have z4 := Lib.cell_of_heap z15 4
    have z5 := Lib.cell_of_heap z15 5
    have HLO := Lib.hid hLo
    clear z15 hLo e0 e1 e2 e3 e4 e5
    go_wp2_with fail
    refine (cBz _ hb15).mono ?_
    rintro e w16 ⟨A16, c16, rfl, hB16, hb16⟩
    have hv16 := conv_text hB16
    have p16 := p15.trans (hb16.mono p15.size)
    have r16 := r15.trans (hb16.mono r15.size)
    obtain ⟨k0, k1, k2, k3, k4, k5⟩ := KH.out _ r16
    by_cases hco : ch.toList = ot.toList
    case' pos =>
      obtain rfl := toList_inj hco
      have hL2 : Lx = Lo := strOf_inj (HLO.out ▸ rfl)
      subst hL2
    case' neg =>
      have hL3 : ¬(strOf Lx).toList = (strOf Lo).toList := fun e => hco (by rw [(HLO.out).mpr (toList_inj e)])
      have hbb : (ch.toList == ot.toList) = ((strOf Lx).toList == (strOf Lo).toList) := by rw [beq_eq_false_iff_ne.2 hco, beq_eq_false_iff_ne.2 hL3]
      clear hL3 hco
    all_goals
      go_wp2_with fail
      refine (cG _ p16).mono ?_
      rintro e w17 ⟨B17, d17, B18, d18, b17, rfl, g17, g18, -, -, hb17⟩
      have t17 := GivePost.tx g17 g18
      unfold txV at t17
      have p17 := p16.trans (hb17.mono p16.size)
      go_wp2_with fail
      refine (cBo _ _ t17).mono ?_
      rintro e w18 ⟨A18, c18, rfl, hB18, hb18⟩
      have hv18 := conv_text hB18
      have p18 := p17.trans (hb18.mono p17.size)
      go_wp2_with fail
      refine (txSure_any _ (Utf8Tabs_below hT p18) (hM.keep p18)).mono ?_
      rintro e w19 ⟨rfl, hb19⟩
      go_wp2_with fail
      go_ret
      exact ⟨ret_bool (by simp [ney, nez]), p18.trans (hb19.mono p18.size)⟩
end Go.Proofs.YteajgnoimbdkbaaDoor

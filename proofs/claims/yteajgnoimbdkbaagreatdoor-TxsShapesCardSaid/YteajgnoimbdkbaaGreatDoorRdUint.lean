/- pack.Reader: Uint, Int, Count. -/
import Derived.Test.YteajgnoimbdkbaaGreatDoorNumber
namespace Go.Proofs.YteajgnoimbdkbaaGreatDoor
open Go.RowKit

theorem numGo_ok (b : List UInt8) : ∀ (k i acc : Nat), acc < 128 ^ i → i + k = 10 → i ≤ b.length → (numGo b k i acc).2.2 = 0 → (i + 1 ≤ (numGo b k i acc).2.1 ∧ (numGo b k i acc).2.1 ≤ b.length) ∧ (numGo b k i acc).1 < 18446744073709551616
  | 0, i, acc, _, _, _, h => by simp [numGo] at h
  | k + 1, i, acc, ha, hk, hi, h => by
    rcases Nat.lt_or_ge i b.length with hlt | hge
    · have hx : b[i]? = some b[i] := List.getElem?_eq_getElem hlt
      generalize b[i] = c at *
      have h256 := c.toNat_lt
      by_cases hf : k = 0 ∧ 1 < c.toNat
      · obtain ⟨rfl, h1⟩ := hf
        rw [numGo_far hx h1] at h
        simp at h
      · by_cases h128 : c.toNat < 128
        · by_cases h0 : c.toNat = 0 ∧ 0 < i
          · rw [numGo_bad hx h0.1 h0.2] at h
            simp at h
          · rw [numGo_last hx hf h128 h0]
            refine ⟨⟨Nat.le_refl _, hlt⟩, ?_⟩
            have hp : 128 ^ i ≤ 128 ^ 9 := Nat.pow_le_pow_right (by decide) (by omega)
            have h9 : (128 : Nat) ^ 9 = 9223372036854775808 := by decide
            have h8 : (128 : Nat) ^ 8 = 72057594037927936 := by decide
            simp only
            by_cases hk0 : k = 0
            · have : c.toNat * 128 ^ i ≤ 1 * 128 ^ 9 := Nat.mul_le_mul (by omega) hp
              omega
            · have h1 : 128 ^ i ≤ 128 ^ 8 := Nat.pow_le_pow_right (by decide) (by omega)
              have : c.toNat * 128 ^ i ≤ 127 * 128 ^ 8 := Nat.mul_le_mul (by omega) h1
              omega
        · rw [numGo_more hx hf h128] at h ⊢
          have := numGo_ok b k (i + 1) _ (by
            have : c.toNat % 128 * 128 ^ i ≤ 127 * 128 ^ i := Nat.mul_le_mul_right _ (by omega)
            rw [Nat.pow_succ]
            omega) (by omega) hlt h
          exact ⟨⟨by omega, this.1.2⟩, this.2⟩
    · rw [numGo_end hge] at h
      simp at h
theorem numF_ok {b : List UInt8} (h : (numF b).2.2 = 0) : 1 ≤ (numF b).2.1 ∧ (numF b).2.1 ≤ b.length ∧ (numF b).1 < 18446744073709551616 := by
  have := numGo_ok b 10 0 0 (by decide) rfl (Nat.zero_le _) h
  exact ⟨this.1.1, this.1.2, this.2⟩
theorem rdUint_lt (r : Rd) (most : Nat) : (rdUint r most).1 < 18446744073709551616 ∧ (rdUint r most).2.b.length ≤ r.b.length := by
  unfold rdUint
  split
  · exact ⟨Nat.zero_lt_succ _, Nat.le_refl _⟩
  · split
    · exact ⟨Nat.zero_lt_succ _, Nat.le_refl _⟩
    · split
      · exact ⟨Nat.zero_lt_succ _, Nat.le_refl _⟩
      · rename_i h _
        have := numF_ok (by simpa using h)
        exact ⟨this.2.2, by simp⟩

theorem grown_put (w : World) (g i : Nat) (u : Value) : w.grownBy (w.setCell ⟨g, i, none⟩ u) (some g) := ⟨rfl, rfl, rfl, by simp [World.setCell], fun k _ hne => Below.heap_setCell _ ⟨g, i, none⟩ _ k (fun e => hne (by rw [e]))⟩
theorem grown_refl (w : World) (r : Option Nat) : w.grownBy w r := ⟨rfl, rfl, rfl, Nat.le_refl _, fun _ _ _ => rfl⟩
theorem grown_trans {a b c : World} {r : Option Nat} (h : a.grownBy b r) (k : b.grownBy c r) : a.grownBy c r :=
  ⟨k.os.trans h.os, k.tape.trans h.tape, k.output.trans h.output, Nat.le_trans h.size k.size, fun i hi hne => (k.block i (by have := h.size; omega) hne).trans (h.block i hi hne)⟩
theorem grown_below {w w' : World} (h : Below w.heap.size w w') (r : Option Nat) : w.grownBy w' r := ⟨h.os, h.tape, h.output, h.size, fun k hk _ => h.block k hk⟩
/-- A part of bytes. -/
theorem Row.dropS {w : World} {b o c n k : Nat} {xs : List Value} (h : Row w (.slice (some ⟨b, o, none⟩) n c) 1 n xs) (hk : k ≤ n) : Row w (.slice (some ⟨b, o + k, none⟩) (n - k) (c - k)) 1 (n - k) (xs.drop k) := by
  obtain ⟨hl, A, c', e, hc, h⟩ := h
  obtain ⟨rfl, -, rfl⟩ := Value.slice.inj e
  refine ⟨by simp; omega, _, _, rfl, ⟨by omega, fun h => by cases h⟩, fun h0 => ?_⟩
  obtain ⟨b2, o2, e2, hlt, hcell⟩ := h (by omega)
  obtain ⟨rfl, rfl⟩ : b = b2 ∧ o = o2 := by simpa using e2
  refine ⟨b, o + k, rfl, hlt, fun j u hj => ?_⟩
  rw [List.getElem?_drop] at hj
  rw [Nat.add_assoc]
  exact hcell _ _ hj
theorem Row.takeS {w : World} {A : Option Addr} {c n k : Nat} {xs : List Value} (h : Row w (.slice A n c) 1 n xs) (hk : k ≤ n) : Row w (.slice A k c) 1 k (xs.take k) := by
  obtain ⟨hl, A', c', e, hc, h⟩ := h
  obtain ⟨rfl, -, rfl⟩ := Value.slice.inj e
  refine ⟨by simp; omega, _, _, rfl, ⟨by omega, hc.2⟩, fun h0 => ?_⟩
  obtain ⟨b2, o2, e2, hlt, hcell⟩ := h (by omega)
  exact ⟨b2, o2, e2, hlt, fun j u hj => hcell j u (by rw [List.getElem?_take] at hj; split at hj <;> simp_all)⟩
theorem Row.zeroS (w : World) (A : Option Addr) (c size : Nat) (hA : A = none → c = 0) : Row w (.slice A 0 c) size 0 [] := ⟨by simp, A, c, rfl, ⟨Nat.zero_le _, hA⟩, fun h => absurd h (by simp)⟩
theorem cellsL_drop (l : List UInt8) (k : Nat) : (cellsL l).drop k = cellsL (l.drop k) := by simp [cellsL]
theorem cellsL_take (l : List UInt8) (k : Nat) : (cellsL l).take k = cellsL (l.take k) := by simp [cellsL]
theorem Bts.dropS {w : World} {b o c k : Nat} {l : List UInt8} (h : Bts w (.slice (some ⟨b, o, none⟩) l.length c) l) (hk : k ≤ l.length) : Bts w (.slice (some ⟨b, o + k, none⟩) (l.length - k) (c - k)) (l.drop k) := by
  have := Row.dropS h hk
  rw [cellsL_drop] at this
  unfold Bts
  rw [List.length_drop]
  exact this
theorem Low.drop {B b o c n k : Nat} (h : Low B n (.slice (some ⟨b, o, none⟩) n c)) (hk : k ≤ n) (o' c' : Nat) : Low B (n - k) (.slice (some ⟨b, o', none⟩) (n - k) c') := fun bb o2 c2 e h0 => by
  have := h b o c rfl (by omega)
  have e2 : b = bb := by simpa [Value.ownBlock] using congrArg Value.ownBlock e
  omega
theorem Low.zero (B : Nat) (v : Value) : Low B 0 v := fun _ _ _ _ h => absurd h (Nat.lt_irrefl _)
theorem Bts.off_reader {w : World} {v : Value} {b : List UInt8} (h : Bts w v b) {g : Nat} {A : Option Addr} {n c : Nat} {ev : Value} {m : Int} (hE : IsErr w ev m) (hg : w.heap[g]? = some (.cells #[.slice A n c, ev] 147 (0, 0))) : ∀ bb o c, v = .slice (some ⟨bb, o, none⟩) b.length c → 0 < b.length → bb ≠ g :=
  h.off hg (by
    intro u hu x
    simp at hu
    rcases hu with rfl | rfl
    · simp
    · rcases hE with ⟨_, rfl⟩ | ⟨_, d, hd⟩
      · simp
      · obtain ⟨t, y, rfl⟩ := hd.iface
        simp)

set_option maxRecDepth 100000 in
set_option maxHeartbeats 2000000 in
theorem rdUint_any (B g : Nat) (r : Rd) (most : Nat) (w : World) (h : ReaderAt B g r w) (hl : r.b.length ≤ 140737488355328) :
    Calls Tryz.prog 79 #[.pointer (some ⟨g, 0, none⟩), .int .u64 (most : Int)] w (RdPost B g (rdUint r most).2 w (.int .u64 ((rdUint r most).1 : Int))) := by
  by_cases h0 : r.err = 0
  · have cL := live_yes B g r w h h0
    have hlt := h.lt
    obtain ⟨A, c, ev, hbk, c0, c1, fz, hb, hE, hlow⟩ := h.cells
    have cN := number_any (.slice A r.b.length c) r.b w hb hl
    by_cases he : (numF r.b).2.2 = 0
    · have hok := numF_ok he
      by_cases hmm : most < (numF r.b).1
      · have hr : rdUint r most = (0, ⟨r.b, 4⟩) := by simp [rdUint, h0, he, hmm]
        have cF := fail_yes B g r ⟨#[110, 117, 109, 98, 101, 114]⟩ 4 w h h0 (by decide)
        rw [hr]
        rw [he] at cN
        have q1 : (most : Int) < ((numF r.b).1 : Int) := by omega
        generalize (numF r.b).1 = N at *
        generalize (numF r.b).2.1 = K at *
        have HBK := Lib.hid hbk
        clear hr he hmm h0 hbk hok
        go_enter Tryz.func79, Tryz.ntmps79
        go_wp2_with fail
        refine cL.mono ?_
        rintro e w1 ⟨rfl, rfl⟩
        go_wp2_with fail
        refine cN.mono ?_
        rintro e w2 ⟨rfl, rfl⟩
        go_wp2_with fail
        refine cF.mono ?_
        rintro e w3 ⟨rfl, h3, hg3⟩
        go_wp2_with fail
        go_ret
        exact ⟨rfl, h3, hg3⟩
      · have hr : rdUint r most = ((numF r.b).1, ⟨r.b.drop (numF r.b).2.1, 0⟩) := by simp [rdUint, h0, he, hmm]
        rw [hr]
        rw [he] at cN
        rw [h0] at hE
        obtain rfl := hE.zero
        obtain ⟨hK1, hK2, hN⟩ := hok
        have q1 : ¬((most : Int) < ((numF r.b).1 : Int)) := by omega
        generalize (numF r.b).1 = N at *
        generalize (numF r.b).2.1 = K at *
        obtain ⟨bb, o, c', e1, hcc, _, _⟩ := hb.cell (by omega)
        obtain ⟨rfl, -, rfl⟩ := Value.slice.inj e1
        have hoff := hb.off_reader hE hbk
        have HBK := Lib.hid hbk
        have k0 : (0 : Int) ≤ (K : Int) := by omega
        have k1 : (K : Int) ≤ (r.b.length : Int) := by omega
        clear hr he hmm h0 hbk e1
        by_cases hcK : c = K
        · subst hcK
          have hz : (r.b.drop c).length = 0 := by simp; omega
          have hnil : r.b.drop c = [] := List.eq_nil_of_length_eq_zero hz
          have hbd : Bts w (.slice (some ⟨bb, o, none⟩) 0 0) (r.b.drop c) := by
            rw [hnil]
            exact Row.zeroS w _ _ _ (fun h => by cases h)
          have hlow2 : Low B (r.b.drop c).length (.slice (some ⟨bb, o, none⟩) 0 0) := by rw [hnil]; exact Low.zero _ _
          have HN := Lib.hid hnil
          have hlc : r.b.length = c := by omega
          rw [hlc] at *
          clear hnil hz
          go_enter Tryz.func79, Tryz.ntmps79
          go_wp2_with fail
          refine cL.mono ?_
          rintro e w1 ⟨rfl, rfl⟩
          go_wp2_with fail
          refine cN.mono ?_
          rintro e w2 ⟨rfl, rfl⟩
          go_wp2_with fail
          go_ret
          exact ⟨rfl, reader_put (r := ⟨_, 0⟩) hlt.1 HBK.out rfl hbd (IsErr.nil_ _) (by simp) hlow2, grown_put _ _ _ _⟩
        · have hbd := hb.dropS hK2
          have hlow2 : Low B (r.b.drop K).length (.slice (some ⟨bb, o + K, none⟩) (r.b.length - K) (c - K)) := by rw [List.length_drop]; exact hlow.drop hK2 _ _
          go_enter Tryz.func79, Tryz.ntmps79
          go_wp2_with fail
          refine cL.mono ?_
          rintro e w1 ⟨rfl, rfl⟩
          go_wp2_with fail
          refine cN.mono ?_
          rintro e w2 ⟨rfl, rfl⟩
          go_wp2_with fail
          go_ret
          exact ⟨rfl, reader_put (r := ⟨_, 0⟩) hlt.1 HBK.out rfl hbd (IsErr.nil_ _) (by simp) hlow2, grown_put _ _ _ _⟩
    · have hr : rdUint r most = (0, ⟨r.b, (numF r.b).2.2⟩) := by simp [rdUint, h0, he]
      have cF := fail_yes B g r ⟨#[110, 117, 109, 98, 101, 114]⟩ (numF r.b).2.2 w h h0 he
      rw [hr]
      generalize (numF r.b).1 = N at *
      generalize (numF r.b).2.1 = K at *
      generalize (numF r.b).2.2 = E at *
      have HBK := Lib.hid hbk
      clear hr h0 hbk
      go_enter Tryz.func79, Tryz.ntmps79
      go_wp2_with fail
      refine cL.mono ?_
      rintro e w1 ⟨rfl, rfl⟩
      go_wp2_with fail
      refine cN.mono ?_
      rintro e w2 ⟨rfl, rfl⟩
      go_wp2_with fail
      refine cF.mono ?_
      rintro e w3 ⟨rfl, h3, hg3⟩
      go_wp2_with fail
      go_ret
      exact ⟨rfl, h3, hg3⟩
  · have cL := live_no B g r w h h0
    have hr : rdUint r most = (0, r) := by simp [rdUint, h0]
    rw [hr]
    clear hr
    go_enter Tryz.func79, Tryz.ntmps79
    go_wp2_with fail
    refine cL.mono ?_
    rintro e w1 ⟨rfl, rfl⟩
    go_wp2_with fail
    go_ret
    exact ⟨rfl, h, grown_refl _ _⟩
end Go.Proofs.YteajgnoimbdkbaaGreatDoor

/- pack.Reader: Int, Count. -/
import Derived.Test.YteajgnoimbdkbaaGreatDoorRdUint
import Derived.Test.YteajgnoimbdkbaaGreatDoorFault
namespace Go.Proofs.YteajgnoimbdkbaaGreatDoor
open Go.RowKit

theorem ofInt_i64 (a : Nat) (ha : a < 9223372036854775808) : (BitVec.ofInt 64 (a : Int)).toNat = a := by
  rw [BitVec.ofInt_natCast, BitVec.toNat_ofNat]; exact Nat.mod_eq_of_lt (by omega)
theorem wrap_i64_cases (n : Int) (h0 : 0 ≤ n) (h1 : n < 18446744073709551616) : IntKind.i64.wrap n = if 9223372036854775808 ≤ n then n - 18446744073709551616 else n := by
  have e : n % 18446744073709551616 = n := by omega
  simp only [IntKind.wrap, IntKind.bits, IntKind.signed, Bool.true_and, decide_eq_true_eq, show (2 : Int) ^ 64 = 18446744073709551616 by rfl, show (2 : Int) ^ (64 - 1) = 9223372036854775808 by rfl, e, ge_iff_le]
theorem xor_i64_m1 (x : Nat) (hx : x < 9223372036854775808) : bits .xor .i64 (x : Int) (-1) = -(x : Int) - 1 := by
  show IntKind.i64.wrap ((BitVec.ofInt 64 (x : Int) ^^^ BitVec.ofInt 64 (-1)).toNat : Int) = _
  rw [show BitVec.ofInt 64 (-1) = BitVec.allOnes 64 by decide, BitVec.xor_allOnes, BitVec.toNat_not, ofInt_i64 x hx, wrap_i64_cases _ (by omega) (by omega)]
  split <;> omega
theorem xor_i64_0 (x : Nat) (hx : x < 9223372036854775808) : bits .xor .i64 (x : Int) 0 = x := by
  show IntKind.i64.wrap ((BitVec.ofInt 64 (x : Int) ^^^ BitVec.ofInt 64 0).toNat : Int) = _
  rw [show BitVec.ofInt 64 0 = 0#64 by decide, BitVec.xor_zero, ofInt_i64 x hx, wrap_i64_cases _ (by omega) (by omega)]
  split <;> omega
theorem zag_bits (n : Nat) (h : n < 18446744073709551616) : bits .xor .i64 ((n : Int) / 2) (wrap64 (-wrap64 (bits .and .u64 (n : Int) 1))) = zagF n := by
  rw [and_one_u64 _ (by omega) (by omega)]
  have e : (n : Int) / 2 = ((n / 2 : Nat) : Int) := by omega
  unfold zagF
  by_cases h2 : n % 2 = 0
  · have e2 : (n : Int) % 2 = 0 := by omega
    rw [if_pos h2, e2, show wrap64 (-wrap64 0) = 0 by decide +kernel, e, xor_i64_0 _ (by omega)]
  · have e2 : (n : Int) % 2 = 1 := by omega
    rw [if_neg h2, e2, show wrap64 (-wrap64 1) = -1 by decide +kernel, e, xor_i64_m1 _ (by omega)]

set_option maxRecDepth 100000 in
set_option maxHeartbeats 2000000 in
theorem rdInt_any (B g : Nat) (r : Rd) (w : World) (h : ReaderAt B g r w) (hl : r.b.length ≤ 140737488355328) :
    Calls Tryz.prog 46 #[.pointer (some ⟨g, 0, none⟩)] w (RdPost B g (rdInt r).2 w (.int .i64 (rdInt r).1)) := by
  have cU := rdUint_any B g r 18446744073709551615 w h hl
  have hlt := (rdUint_lt r 18446744073709551615).1
  unfold rdInt
  generalize (rdUint r 18446744073709551615).1 = n at *
  generalize (rdUint r 18446744073709551615).2 = r2 at *
  go_enter Tryz.func46, Tryz.ntmps46
  go_wp2_with fail
  refine cU.mono ?_
  rintro e w1 ⟨rfl, h1, hg1⟩
  have hz := zag_bits n hlt
  have HZ := Lib.hid hz
  clear hz
  go_wp2_with fail
  go_ret
  exact ⟨ret_int HZ.out, h1, hg1⟩

theorem Row.grow {w w' : World} {v : Value} {size n g : Nat} {xs : List Value} (h : Row w v size n xs) (hg : w.grownBy w' (some g)) (hoff : ∀ b o c, v = .slice (some ⟨b, o, none⟩) n c → 0 < n → b ≠ g) : Row w' v size n xs := by
  obtain ⟨hl, A, c, rfl, hc, h⟩ := h
  refine ⟨hl, A, c, rfl, hc, fun h0 => ?_⟩
  obtain ⟨b, o, rfl, hlt, hcell⟩ := h h0
  refine ⟨b, o, rfl, Nat.lt_of_lt_of_le hlt hg.size, fun j s hj => ?_⟩
  exact (World.cell?_of_block (a := ⟨b, o + j, none⟩) (hg.block b hlt (by have := hoff b o c rfl h0; simpa using this))).trans (hcell j s hj)
/-- The reader's bytes are laid back as they were. -/
theorem reader_back {B g : Nat} {r r2 : Rd} {w w2 : World} {v ev : Value} (hbk : w.heap[g]? = some (.cells #[v, ev] 147 (0, 0))) (hb : Bts w v r.b) (hE : IsErr w ev r.err) (hg : w.grownBy w2 (some g)) (h2 : ReaderAt B g r2 w2) (h0 : r2.err = 0) (hlow : Low B r.b.length v) : ReaderAt B g ⟨r.b, 0⟩ (w2.setCell ⟨g, 0, none⟩ v) := by
  obtain ⟨A, c, rfl⟩ := hb.form
  obtain ⟨A2, c2, ev2, hbk2, _, _, _, _, hE2, _⟩ := h2.cells
  rw [h0] at hE2
  obtain rfl := hE2.zero
  exact reader_put (r := ⟨r.b, 0⟩) h2.1 hbk2 rfl (hb.grow hg (hb.off_reader hE hbk)) (IsErr.nil_ _) (by simp) hlow

set_option maxRecDepth 100000 in
set_option maxHeartbeats 2000000 in
theorem rdCount_any (B g : Nat) (r : Rd) (most : Nat) (w : World) (h : ReaderAt B g r w) (hl : r.b.length ≤ 140737488355328) (hm : most ≤ 140737488355328) :
    Calls Tryz.prog 47 #[.pointer (some ⟨g, 0, none⟩), .int .i64 (most : Int)] w (RdPost B g (rdCount r most).2 w (.int .i64 ((rdCount r most).1 : Int))) := by
  by_cases h0 : r.err = 0
  · have cL := live_yes B g r w h h0
    have cU := rdUint_any B g r most w h hl
    obtain ⟨A, c, ev, hbk, c0, c1, fz, hb, hE, hlow⟩ := h.cells
    have hu := rdUint_lt r most
    have hmx : (0 : Int) ≤ (most : Int) := by omega
    by_cases he : (rdUint r most).2.err = 0
    · have cL2 := fun w2 h2 => live_yes B g (rdUint r most).2 w2 h2 he
      have hl2 : (rdUint r most).2.b.length ≤ 140737488355328 := by omega
      by_cases hs : (rdUint r most).2.b.length < (rdUint r most).1
      · have hr : rdCount r most = (0, ⟨r.b, 2⟩) := by simp [rdCount, h0, he, hs]
        have q1 : ((rdUint r most).2.b.length : Int) < ((rdUint r most).1 : Int) := by omega
        rw [hr]
        generalize (rdUint r most).1 = n at *
        generalize (rdUint r most).2 = r2 at *
        have HBK := Lib.hid hbk
        have HE2 := Lib.hid he
        clear hr hbk he
        go_enter Tryz.func47, Tryz.ntmps47
        go_wp2_with fail
        refine cL.mono ?_
        rintro e w1 ⟨rfl, rfl⟩
        have H0 := Lib.hid h0
        clear h0
        go_wp2_with fail
        refine cU.mono ?_
        rintro e w2 ⟨rfl, h2, hg2⟩
        have hR := reader_back HBK.out hb hE hg2 h2 HE2.out hlow
        obtain ⟨A2, c2, ev2, hbk2, d0, d1, fz2, hb2, hE2, _⟩ := h2.cells
        have cL3 := cL2 _ h2
        have HBK2 := Lib.hid hbk2
        clear hbk2
        go_wp2_with fail
        refine cL3.mono ?_
        rintro e w3 ⟨rfl, rfl⟩
        have cF := fail_yes B g ⟨r.b, 0⟩ ⟨#[99, 111, 117, 110, 116]⟩ 2 _ hR rfl (by decide)
        go_wp2_with fail
        refine cF.mono ?_
        rintro e w4 ⟨rfl, h4, hg4⟩
        have cL4 := live_no B g _ w4 h4 (by show (2 : Int) ≠ 0; decide)
        go_wp2_with fail
        refine cL4.mono ?_
        rintro e w5 ⟨rfl, rfl⟩
        go_wp2_with fail
        go_ret
        exact ⟨rfl, h4, grown_trans (grown_trans hg2 (grown_put _ _ _ _)) hg4⟩
      · have hr : rdCount r most = rdUint r most := by simp [rdCount, h0, he, hs]
        have q1 : ¬(((rdUint r most).2.b.length : Int) < ((rdUint r most).1 : Int)) := by omega
        have q2 : ((rdUint r most).1 : Int) ≤ 9223372036854775807 := by omega
        rw [hr]
        generalize (rdUint r most).1 = n at *
        generalize (rdUint r most).2 = r2 at *
        have HBK := Lib.hid hbk
        have HE2 := Lib.hid he
        clear hr hbk he
        go_enter Tryz.func47, Tryz.ntmps47
        go_wp2_with fail
        refine cL.mono ?_
        rintro e w1 ⟨rfl, rfl⟩
        have H0 := Lib.hid h0
        clear h0
        go_wp2_with fail
        refine cU.mono ?_
        rintro e w2 ⟨rfl, h2, hg2⟩
        have hR := reader_back HBK.out hb hE hg2 h2 HE2.out hlow
        obtain ⟨A2, c2, ev2, hbk2, d0, d1, fz2, hb2, hE2, _⟩ := h2.cells
        have cL3 := cL2 _ h2
        have HBK2 := Lib.hid hbk2
        clear hbk2
        go_wp2_with fail
        refine cL3.mono ?_
        rintro e w3 ⟨rfl, rfl⟩
        go_wp2_with fail
        refine cL3.mono ?_
        rintro e w4 ⟨rfl, rfl⟩
        go_wp2_with fail
        go_ret
        exact ⟨rfl, h2, hg2⟩
    · have hr : rdCount r most = (0, (rdUint r most).2) := by simp [rdCount, h0, he]
      have cL2 := fun w2 h2 => live_no B g (rdUint r most).2 w2 h2 he
      rw [hr]
      generalize (rdUint r most).1 = n at *
      generalize (rdUint r most).2 = r2 at *
      have HBK := Lib.hid hbk
      clear hr hbk he
      go_enter Tryz.func47, Tryz.ntmps47
      go_wp2_with fail
      refine cL.mono ?_
      rintro e w1 ⟨rfl, rfl⟩
      have H0 := Lib.hid h0
      clear h0
      go_wp2_with fail
      refine cU.mono ?_
      rintro e w2 ⟨rfl, h2, hg2⟩
      obtain ⟨A2, c2, ev2, hbk2, d0, d1, fz2, hb2, hE2, _⟩ := h2.cells
      have cL3 := cL2 _ h2
      have HBK2 := Lib.hid hbk2
      clear hbk2
      go_wp2_with fail
      refine cL3.mono ?_
      rintro e w3 ⟨rfl, rfl⟩
      go_wp2_with fail
      refine cL3.mono ?_
      rintro e w4 ⟨rfl, rfl⟩
      go_wp2_with fail
      go_ret
      exact ⟨rfl, h2, hg2⟩
  · have cL := live_no B g r w h h0
    have hr : rdCount r most = (0, r) := by simp [rdCount, h0]
    rw [hr]
    clear hr
    go_enter Tryz.func47, Tryz.ntmps47
    go_wp2_with fail
    refine cL.mono ?_
    rintro e w1 ⟨rfl, rfl⟩
    go_wp2_with fail
    go_ret
    exact ⟨rfl, h, grown_refl _ _⟩
end Go.Proofs.YteajgnoimbdkbaaGreatDoor

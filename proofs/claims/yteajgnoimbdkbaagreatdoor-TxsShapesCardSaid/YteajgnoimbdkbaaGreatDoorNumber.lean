/- pack.number: the number that bytes begin with. -/
import Derived.Test.YteajgnoimbdkbaaGreatDoorReader
import Derived.Laws.BitsAllLaws
import Derived.IntWalk
namespace Go.Proofs.YteajgnoimbdkbaaGreatDoor
open Go.RowKit

theorem numGo_zero (b : List UInt8) (i acc : Nat) : numGo b 0 i acc = (0, 0, 3) := rfl
theorem numGo_end {b : List UInt8} {k i acc : Nat} (h : b.length ≤ i) : numGo b (k + 1) i acc = (0, 0, 12) := by rw [numGo, List.getElem?_eq_none h]
theorem numGo_far {b : List UInt8} {i acc : Nat} {c : UInt8} (h : b[i]? = some c) (hc : 1 < c.toNat) : numGo b (0 + 1) i acc = (0, 0, 3) := by
  rw [numGo, h]
  simp only
  rw [if_pos ⟨trivial, hc⟩]
theorem numGo_bad {b : List UInt8} {k i acc : Nat} {c : UInt8} (h : b[i]? = some c) (hc : c.toNat = 0) (hi : 0 < i) : numGo b (k + 1) i acc = (0, 0, 3) := by
  rw [numGo, h]
  simp only
  rw [if_neg (by omega), if_pos (by omega), if_pos ⟨hc, hi⟩]
theorem numGo_last {b : List UInt8} {k i acc : Nat} {c : UInt8} (h : b[i]? = some c) (hk : ¬(k = 0 ∧ 1 < c.toNat)) (hc : c.toNat < 128) (hi : ¬(c.toNat = 0 ∧ 0 < i)) : numGo b (k + 1) i acc = (acc + c.toNat * 128 ^ i, i + 1, 0) := by
  rw [numGo, h]
  simp only
  rw [if_neg hk, if_pos hc, if_neg hi]
theorem numGo_more {b : List UInt8} {k i acc : Nat} {c : UInt8} (h : b[i]? = some c) (hk : ¬(k = 0 ∧ 1 < c.toNat)) (hc : ¬c.toNat < 128) : numGo b (k + 1) i acc = numGo b k (i + 1) (acc + c.toNat % 128 * 128 ^ i) := by
  rw [numGo, h]
  simp only
  rw [if_neg hk, if_neg hc]

theorem andNot_128 (x : Int) (h0 : 0 ≤ x) (h1 : x < 256) : bits .andNot .u8 x 128 = x % 128 := by
  have h : ∀ a : Fin 256, bits .andNot .u8 ((a : Nat) : Int) 128 = ((a : Nat) : Int) % 128 := by decide +kernel
  have := h ⟨x.toNat, by omega⟩
  simpa [Int.toNat_of_nonneg h0] using this
theorem pow_128 (i : Nat) : 128 ^ i = 2 ^ (7 * i) := by rw [Nat.pow_mul]
theorem step_bits (acc i : Nat) (x : UInt8) (hi : i < 10) (hacc : acc < 128 ^ i) (hx : i = 9 → x.toNat ≤ 1) :
    bits .or .u64 (acc : Int) (IntKind.u64.wrap (IntKind.u64.wrap (bits .andNot .u8 (x.toNat : Int) 128) * 2 ^ (7 * i))) = ((acc + x.toNat % 128 * 128 ^ i : Nat) : Int) := by
  have h256 := x.toNat_lt
  rw [andNot_128 _ (by omega) (by omega)]
  have e1 : IntKind.u64.wrap ((x.toNat : Int) % 128) = ((x.toNat % 128 : Nat) : Int) := by rw [IntKind.wrap_u64]; omega
  rw [e1]
  have e2 : ((x.toNat % 128 : Nat) : Int) * 2 ^ (7 * i) = ((x.toNat % 128 * 128 ^ i : Nat) : Int) := by
    rw [pow_128]
    simp
  rw [e2]
  have hp : 128 ^ i ≤ 128 ^ 9 := Nat.pow_le_pow_right (by decide) (by omega)
  have h9 : (128 : Nat) ^ 9 = 9223372036854775808 := by decide
  have h8 : (128 : Nat) ^ 8 = 72057594037927936 := by decide
  have hb : x.toNat % 128 * 128 ^ i < 18446744073709551616 := by
    by_cases h : i = 9
    · have := hx h
      have : x.toNat % 128 * 128 ^ i ≤ 1 * 128 ^ 9 := Nat.mul_le_mul (by omega) hp
      omega
    · have h1 : 128 ^ i ≤ 128 ^ 8 := Nat.pow_le_pow_right (by decide) (by omega)
      have : x.toNat % 128 * 128 ^ i ≤ 127 * 128 ^ 8 := Nat.mul_le_mul (by omega) h1
      omega
  have e3 : IntKind.u64.wrap ((x.toNat % 128 * 128 ^ i : Nat) : Int) = ((x.toNat % 128 * 128 ^ i : Nat) : Int) := by rw [IntKind.wrap_u64]; omega
  rw [e3, bits_or_u64_nat _ _ (by omega) hb]
  congr 1
  have := Nat.shiftLeft_add_eq_or_of_lt (i := 7 * i) (b := acc) (by rw [← pow_128]; exact hacc) (x.toNat % 128)
  rw [Nat.shiftLeft_eq, ← pow_128] at this
  rw [Nat.or_comm, ← this]
  omega
theorem step_bits9 (acc : Nat) (x : UInt8) (hacc : acc < 128 ^ 9) (hx : x.toNat ≤ 1) :
    bits .or .u64 (acc : Int) (IntKind.u64.wrap (IntKind.u64.wrap (bits .andNot .u8 (x.toNat : Int) 128) * 9223372036854775808)) = ((acc + x.toNat % 128 * 128 ^ 9 : Nat) : Int) :=
  step_bits acc 9 x (by omega) hacc (fun _ => hx)

set_option maxRecDepth 100000 in
set_option maxHeartbeats 2000000 in
theorem number_any (v : Value) (b : List UInt8) (w : World) (h : Bts w v b) (hl : b.length ≤ 140737488355328) :
    Calls Tryz.prog 122 #[v] w fun e w' => e = .returned (.tuple #[.int .u64 ((numF b).1 : Int), .int .i64 ((numF b).2.1 : Int), .int .i64 (numF b).2.2]) ∧ w' = w := by
  obtain ⟨A, c, rfl⟩ := h.form
  obtain ⟨F, hF⟩ : ∃ F, numF b = F := ⟨_, rfl⟩
  have HF : Hid (numGo b 10 0 0 = F) := Lib.hid hF
  rw [hF]
  have HB := Lib.hid h
  clear hF h
  go_enter Tryz.func122, Tryz.ntmps122
  go_wp2_with fail
  go_loopg [5, 8] 10 (fun k s5 s8 wq => ∃ i acc : Nat, k + i = 10 ∧ s5 = .int .u64 (acc : Int) ∧ s8 = .int .i64 (i : Int) ∧ acc < 128 ^ i ∧ i ≤ b.length ∧ Hid (numGo b (10 - i) i acc = F) ∧ wq = w)
  case atStart => exact ⟨0, 0, rfl, rfl, rfl, by decide, Nat.zero_le _, HF, rfl⟩
  case round =>
    obtain ⟨i, acc, hk, rfl, rfl, hacc, hib, HN, rfl⟩ := hrel
    by_cases hi : i < 10
    · obtain ⟨k, hk2⟩ : ∃ k, 10 - i = k + 1 := ⟨9 - i, by omega⟩
      rw [hk2] at HN
      have hi2 : (i : Int) < 10 := by omega
      by_cases he : i = b.length
      · have hf := HN.out
        rw [numGo_end (by omega)] at hf
        subst hf
        have q : i = b.length := he
        clear HN HF hk hacc hib
        go_wp2_with fail
        go_ret3
        exact ⟨rfl, rfl⟩
      · have hlt : i < b.length := by omega
        obtain ⟨bb, o, c', e1, _, _, hcell⟩ := HB.out.cell (by omega)
        obtain ⟨rfl, -, rfl⟩ := Value.slice.inj e1
        clear e1
        have hx : b[i]? = some b[i] := List.getElem?_eq_getElem hlt
        have c0 : wr.cell? ⟨bb, o + i, none⟩ = some (.int .u8 (b[i].toNat : Int)) := hcell i _ (by simp [cellsL, hx])
        have HX := Lib.hid hx
        clear hx hcell
        generalize b[i] = x at *
        have hx256 := x.toNat_lt
        have n1 : ¬(i = b.length) := he
        by_cases hfar : i = 9 ∧ 1 < x.toNat
        · obtain ⟨rfl, hx1⟩ := hfar
          have hf := HN.out
          obtain rfl : k = 0 := by omega
          rw [numGo_far HX.out hx1] at hf
          subst hf
          have q1 : (1 : Int) < (x.toNat : Int) := by omega
          clear HN HF hk hacc hib
          go_wp2_with fail
          go_ret3
          exact ⟨rfl, rfl⟩
        · by_cases n9 : i = 9
          · subst n9
            have hx1 : x.toNat ≤ 1 := by omega
            have q1 : ¬((1 : Int) < (x.toNat : Int)) := by omega
            obtain rfl : k = 0 := by omega
            by_cases h0 : x.toNat = 0
            · have hf := HN.out
              rw [numGo_bad HX.out h0 (by omega)] at hf
              subst hf
              clear HN HF hk hacc hib
              go_wp2_with fail
              go_ret3
              exact ⟨rfl, rfl⟩
            · have hf := HN.out
              have hb := step_bits9 acc x hacc hx1
              rw [numGo_last HX.out (by omega) (by omega) (by omega)] at hf
              rw [Nat.mod_eq_of_lt (show x.toNat < 128 by omega)] at hb
              subst hf
              have H5 := Lib.hid hb
              have q2 : (x.toNat : Int) < 128 := by omega
              clear HN HF hk hacc hib hb
              go_wp2_with fail
              go_ret3
              refine ⟨?_, rfl⟩
              rw [H5.out]
              rfl
          · have hb := step_bits acc i x hi hacc (fun h => absurd h n9)
            have q9 : ¬((i : Int) = 9) := by omega
            by_cases h128 : x.toNat < 128
            · have q2 : (x.toNat : Int) < 128 := by omega
              by_cases h0 : x.toNat = 0 ∧ 0 < i
              · obtain ⟨h0, h1⟩ := h0
                have hf := HN.out
                rw [numGo_bad HX.out h0 h1] at hf
                subst hf
                clear HN HF hk hacc hib hb
                go_wp2_with fail
                go_ret3
                exact ⟨rfl, rfl⟩
              · have hf := HN.out
                rw [numGo_last HX.out (by omega) h128 h0] at hf
                rw [Nat.mod_eq_of_lt h128] at hb
                subst hf
                by_cases hz : x.toNat = 0
                · have hi0 : ¬ 0 < i := fun h => h0 ⟨hz, h⟩
                  have hb0 := hb
                  rw [hz, show ((0 : Nat) : Int) = 0 from rfl] at hb0
                  have H5 := Lib.hid hb0
                  clear h0 HN HF hk hacc hib hb hb0 hx256 h128 q2 hfar
                  go_wp2_with fail
                  go_ret3
                  refine ⟨?_, rfl⟩
                  rw [H5.out]
                  simp
                · have H5 := Lib.hid hb
                  clear h0 HN HF hk hacc hib hb
                  go_wp2_with fail
                  go_ret3
                  refine ⟨?_, rfl⟩
                  rw [H5.out]
                  simp
            · have q2 : ¬((x.toNat : Int) < 128) := by omega
              have hf := HN.out
              rw [numGo_more HX.out (by omega) h128] at hf
              have H5 := Lib.hid hb
              have HN2 := Lib.hid hf
              clear HN hb hf
              go_wp2_with fail
              go_roundg (gk - 1)
              case measure => omega
              case rel =>
                refine ⟨i + 1, acc + x.toNat % 128 * 128 ^ i, by omega, by rw [H5.out], by go_num, ?_, by omega, ?_, rfl⟩
                · have : x.toNat % 128 * 128 ^ i ≤ 127 * 128 ^ i := Nat.mul_le_mul_right _ (by omega)
                  rw [Nat.pow_succ]
                  omega
                · rw [show 10 - (i + 1) = k by omega]
                  exact HN2
    · obtain rfl : i = 10 := by omega
      have hf := HN.out
      rw [show 10 - 10 = 0 from rfl, numGo_zero] at hf
      subst hf
      clear HN HF hk hib hacc
      go_wp2_with fail
      go_ret3
      exact ⟨rfl, rfl⟩
end Go.Proofs.YteajgnoimbdkbaaGreatDoor

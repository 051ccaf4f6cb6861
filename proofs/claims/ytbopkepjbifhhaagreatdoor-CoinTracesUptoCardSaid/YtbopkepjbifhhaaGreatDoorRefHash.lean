/- isthmusref01.Parse: the sum of digits, as the program's. -/
import Derived.Test.YtbopkepjbifhhaaGreatDoorRefText
import Derived.Test.YtbopkepjbifhhaaGreatDoorParse
import Derived.Test.YtbopkepjbifhhaaGreatDoorBack
namespace Go.Proofs.YtbopkepjbifhhaaGreatDoor
open Go.RowKit

theorem nib_all : ∀ n : Fin 256, nib (UInt8.ofNat n) = if 48 ≤ n.val ∧ n.val ≤ 57 then (n.val : Int) - 48 else if 97 ≤ n.val ∧ n.val ≤ 102 then (n.val : Int) - 87 else 0 := by decide +kernel
theorem nib_is (c : UInt8) : nib c = if 48 ≤ c.toNat ∧ c.toNat ≤ 57 then (c.toNat : Int) - 48 else if 97 ≤ c.toNat ∧ c.toNat ≤ 102 then (c.toNat : Int) - 87 else 0 := by
  have h := nib_all ⟨c.toNat, c.toNat_lt⟩
  simpa using h
theorem shaOk_size {s : ByteArray} (h : shaOk s = true) : s.size = 64 := by
  unfold shaOk at h
  rw [beq_iff_eq, ByteArray.toList_eq, ByteArray.toList_eq] at h
  have := congrArg List.length h
  rw [Array.length_toList, Array.length_toList, ByteArray.size_data, ByteArray.size_data, textS_size] at this
  omega
theorem partP_mul (s : ByteArray) (j : Nat) (hj : j < s.size) : (partP s j (j / 2) * 16 + nib s[j]) % 256 = partP s (j + 1) (j / 2) := by
  have h := partP_next s j hj
  have h1 := nib_range s[j]
  have h2 : partP s j (j / 2) < 16 := by
    have h3 := nib_range (s.data.toList.getD (2 * (j / 2)) 0)
    rw [partP, if_neg (by omega)]
    split <;> omega
  have h3 := (partP_range s j (j / 2)).1
  rw [IntKind.wrap_u8, IntKind.wrap_u8, show nib s[j] % 256 = nib s[j] by omega, or_nib _ _ ⟨h3, h2⟩ h1] at h
  rw [← h]
  omega

def RefHashPost (s : ByteArray) (w : World) (e : Ending) (w' : World) : Prop :=
  e = .returned (.tuple #[bytesV 32 (if shaOk s then parseV s else fun _ => 0), .int .i64 (if shaOk s then 0 else 3)]) ∧ Below w.heap.size w w'

set_option maxRecDepth 100000 in
set_option maxHeartbeats 2000000 in
theorem refHash_any (s : ByteArray) (w : World) :
    Calls Tryz.prog 36 #[.string s] w (RefHashPost s w) := by
  have hM0 := marks_zeros (w.alloc (.cells (Array.replicate 32 (.int .u8 0)) 51)) 51 32
  have hR0 := (marks_zeros w 51 32).keep (by simp) (below_alloc _ (.cells (Array.replicate 32 (.int .u8 0)) 51))
  have hB0 := (below_alloc w (.cells (Array.replicate 32 (.int .u8 0)) 51)).alloc (by simp) (.cells (Array.replicate 32 (.int .u8 0)) 51)
  rw [World.size_alloc] at hM0
  go_enter Tryz.func36, Tryz.ntmps36
  go_wp2_with fail
  go_loopg [5] (if s.size = 64 then 64 else 0) (fun k v wq => ∃ j : Nat, j + k = (if s.size = 64 then 64 else 0) ∧ v = .int .i64 j ∧ Marks wq (w.heap.size + 1) 32 (partP s j) ∧ Marks wq w.heap.size 32 (fun _ => 0) ∧ Below w.heap.size w wq)
  case atStart => exact ⟨0, by omega, rfl, by rw [show partP s 0 = fun _ => 0 from funext fun k => by simp [partP]]; exact hM0, hR0, hB0⟩
  case round =>
    clear hM0 hR0 hB0
    obtain ⟨j, hj, rfl, hM, hR, hB⟩ := hrel
    by_cases h64 : s.size = 64 ∧ j < 64
    · obtain ⟨h6, hlt⟩ := h64
      rw [if_pos h6] at hj
      have h6i : (s.size : Int) = 64 := by omega
      have m0 := hM.1 (j / 2) (by omega)
      have mf := hM.2
      have hjs : j < s.size := by omega
      have hl : w.heap.size + 1 < wr.heap.size := cell_lt m0
      have e4 : IntKind.i64.wrap ((j : Int) / 2) = ((j / 2 : Nat) : Int) := by have := IntKind.wrap_i64 ((j : Int) / 2); omega
      have e5 : ((j / 2 : Nat) : Int) < 32 := by omega
      have e6 : (j : Int) / 2 < 32 := by omega
      have e7 : (0 : Int) ≤ (j : Int) / 2 := by omega
      have e8 : ((j : Int) / 2).toNat = j / 2 := by omega
      have e9 : (j : Int) < 64 := by omega
      have hgx : s[j]? = some s[j] := by simp [hjs]
      have hmul := partP_mul s j hjs
      have hnib := nib_is s[j]
      have HP : ∀ u, u = partP s (j + 1) (j / 2) → Marks (wr.setCell ⟨w.heap.size + 1, j / 2, none⟩ (.int .u8 u)) (w.heap.size + 1) 32 (partP s (j + 1)) := fun u hu => by
        have h := hM.set (i := j / 2) (by omega) u
        refine ⟨fun k hk => ?_, h.2⟩
        have h1 := h.1 k hk
        rw [h1]
        by_cases e : k = j / 2
        · subst e
          simp [hu]
        · simp only [if_neg e]
          rw [partP_other s j k e]
      have HM := Lib.hid HP
      clear hM HP
      generalize partP s j (j / 2) = x at *
      have hcb := s[j].toNat_lt
      have H96 : x * 16 % 256 = x * 16 % 256 := rfl
      clear H96
      by_cases c1 : 48 ≤ s[j].toNat ∧ s[j].toNat ≤ 57
      · rw [if_pos c1] at hnib
        rw [hnib] at hmul
        have HU := Lib.hid hmul
        obtain ⟨c2, c3⟩ := c1
        have c4 : (48 : Int) ≤ (s[j].toNat : Int) := by omega
        have c5 : (s[j].toNat : Int) ≤ 57 := by omega
        have c6 : ¬((97 : Int) ≤ (s[j].toNat : Int)) := by omega
        clear hnib hmul
        go_wp2_with fail
        go_roundg (64 - (j + 1))
        case rel => exact ⟨j + 1, by rw [if_pos h6]; omega, by simp, HM.out _ (by rw [← HU.out]; try omega), hR.grown (cell_lt (hR.1 0 (by omega))) (grown_set ⟨rfl, rfl, rfl, Nat.le_refl _, fun _ _ _ => rfl⟩ _ _) (by simp), hB.setCell (by simp <;> omega) _⟩
        case measure => omega
      · by_cases c9 : 97 ≤ s[j].toNat ∧ s[j].toNat ≤ 102
        · rw [if_neg c1, if_pos c9] at hnib
          rw [hnib] at hmul
          have HU := Lib.hid hmul
          obtain ⟨c2, c3⟩ := c9
          have c4 : (97 : Int) ≤ (s[j].toNat : Int) := by omega
          have c5 : (s[j].toNat : Int) ≤ 102 := by omega
          have c6 : ¬((s[j].toNat : Int) ≤ 57) := by omega
          have c7 : (48 : Int) ≤ (s[j].toNat : Int) := by omega
          clear hnib hmul c1
          go_wp2_with fail
          go_roundg (64 - (j + 1))
          case rel => exact ⟨j + 1, by rw [if_pos h6]; omega, by simp, HM.out _ (by rw [← HU.out]; try omega), hR.grown (cell_lt (hR.1 0 (by omega))) (grown_set ⟨rfl, rfl, rfl, Nat.le_refl _, fun _ _ _ => rfl⟩ _ _) (by simp), hB.setCell (by simp <;> omega) _⟩
          case measure => omega
        · rw [if_neg c1, if_neg c9] at hnib
          rw [hnib] at hmul
          have HU := Lib.hid hmul
          have HC1 := Lib.hid c1
          have HC9 := Lib.hid c9
          clear hnib hmul c1 c9
          by_cases d1 : (48 : Int) ≤ (s[j].toNat : Int)
          · have d2 : ¬((s[j].toNat : Int) ≤ 57) := by have := HC1.out; omega
            by_cases d3 : (97 : Int) ≤ (s[j].toNat : Int)
            · have d4 : ¬((s[j].toNat : Int) ≤ 102) := by have := HC9.out; omega
              go_wp2_with fail
              go_roundg (64 - (j + 1))
              case rel => exact ⟨j + 1, by rw [if_pos h6]; omega, by simp, HM.out _ (by rw [← HU.out]; try omega), hR.grown (cell_lt (hR.1 0 (by omega))) (grown_set ⟨rfl, rfl, rfl, Nat.le_refl _, fun _ _ _ => rfl⟩ _ _) (by simp), hB.setCell (by simp <;> omega) _⟩
              case measure => omega
            · go_wp2_with fail
              go_roundg (64 - (j + 1))
              case rel => exact ⟨j + 1, by rw [if_pos h6]; omega, by simp, HM.out _ (by rw [← HU.out]; try omega), hR.grown (cell_lt (hR.1 0 (by omega))) (grown_set ⟨rfl, rfl, rfl, Nat.le_refl _, fun _ _ _ => rfl⟩ _ _) (by simp), hB.setCell (by simp <;> omega) _⟩
              case measure => omega
          · have d3 : ¬((97 : Int) ≤ (s[j].toNat : Int)) := by omega
            go_wp2_with fail
            go_roundg (64 - (j + 1))
            case rel => exact ⟨j + 1, by rw [if_pos h6]; omega, by simp, HM.out _ (by rw [← HU.out]; try omega), hR.grown (cell_lt (hR.1 0 (by omega))) (grown_set ⟨rfl, rfl, rfl, Nat.le_refl _, fun _ _ _ => rfl⟩ _ _) (by simp), hB.setCell (by simp <;> omega) _⟩
            case measure => omega
    · have hM2 : ∃ f, Marks wr (w.heap.size + 1) 32 f ∧ (∀ i, i < 32 → 0 ≤ f i ∧ f i < 256) ∧ (shaOk s = true → f = parseV s) ∧ ((textS f).toList == s.toList) = shaOk s := by
        refine ⟨partP s j, hM, fun i _ => partP_range s j i, fun h => ?_, ?_⟩
        · have h6 := shaOk_size h
          rw [if_pos h6] at hj
          obtain rfl : j = 64 := by omega
          rw [show parseV s = partP s 64 from by funext k; rw [parseV, h6]; rfl]
        · by_cases h6 : s.size = 64
          · rw [if_pos h6] at hj
            obtain rfl : j = 64 := by omega
            rw [show partP s 64 = parseV s from by funext k; rw [parseV, h6]; rfl]
            rfl
          · have h1 : shaOk s = false := by
              cases h : shaOk s
              · rfl
              · exact absurd (shaOk_size h) h6
            rw [h1, beq_eq_false_iff_ne]
            intro h
            rw [ByteArray.toList_eq, ByteArray.toList_eq] at h
            have := congrArg List.length h
            rw [Array.length_toList, Array.length_toList, ByteArray.size_data, ByteArray.size_data, textS_size] at this
            omega
      obtain ⟨f, hM2, hf, hfv, hq⟩ := hM2
      have HFV := Lib.hid hfv
      have hx : ¬((j : Int) < (s.size : Int) ∧ (s.size : Int) = 64) := by
        by_cases h6 : s.size = 64
        · omega
        · omega
      have cT := fun W => refText_any f hf W
      have hz0 : w.heap.size < wr.heap.size := cell_lt (hR.1 0 (by omega))
      have hz1 : w.heap.size + 1 < wr.heap.size := cell_lt (hM2.1 0 (by omega))
      clear hM hfv hj h64
      cases hok : shaOk s
      · rw [hok] at hq
        have HOK := Lib.hid hok
        clear hok
        by_cases hjs : (j : Int) < (s.size : Int)
        · have h6 : ¬((s.size : Int) = 64) := fun h => hx ⟨hjs, h⟩
          clear hx
          go_wp2_with (refine wpList_load_marks rfl _ 51 5 rfl (w.heap.size + 1) 32 f Tryz.underlying51 (by kernel_rfl) rfl hM2 ?_)
          refine (cT _).mono ?_
          rintro e w1 ⟨rfl, hb1⟩
          have hR1 := hR.keep hz0 hb1
          have hB1 := hB.trans (hb1.mono hB.size)
          go_wp2_with (refine wpList_store_marks rfl _ _ 51 rfl w.heap.size 32 (fun _ => 0) (fun _ => 0) (by kernel_rfl) rfl rfl hR1 ?_; intro w2 hR2 hG2)
          have hres := run_loadVar_marks (P := Tryz.prog) w2 51 5 w.heap.size 32 _ Tryz.underlying51 (by kernel_rfl) hR2
          refine bodyPost_ret (v := .tuple #[bytesV 32 (fun _ => 0), .int .i64 3]) (by simp [results, Tryz.results36, asAddr, hres]) rfl ?_
          exact ⟨by rw [HOK.out]; rfl, hB1.grown hG2 hB1.size (fun k hk => by cases hk; omega)⟩
        · clear hx
          go_wp2_with (refine wpList_load_marks rfl _ 51 5 rfl (w.heap.size + 1) 32 f Tryz.underlying51 (by kernel_rfl) rfl hM2 ?_)
          refine (cT _).mono ?_
          rintro e w1 ⟨rfl, hb1⟩
          have hR1 := hR.keep hz0 hb1
          have hB1 := hB.trans (hb1.mono hB.size)
          go_wp2_with (refine wpList_store_marks rfl _ _ 51 rfl w.heap.size 32 (fun _ => 0) (fun _ => 0) (by kernel_rfl) rfl rfl hR1 ?_; intro w2 hR2 hG2)
          have hres := run_loadVar_marks (P := Tryz.prog) w2 51 5 w.heap.size 32 _ Tryz.underlying51 (by kernel_rfl) hR2
          refine bodyPost_ret (v := .tuple #[bytesV 32 (fun _ => 0), .int .i64 3]) (by simp [results, Tryz.results36, asAddr, hres]) rfl ?_
          exact ⟨by rw [HOK.out]; rfl, hB1.grown hG2 hB1.size (fun k hk => by cases hk; omega)⟩
      · rw [hok] at hq
        have h6 := shaOk_size hok
        have h6i : (s.size : Int) = 64 := by omega
        have hjs : ¬((j : Int) < (s.size : Int)) := fun h => hx ⟨h, h6i⟩
        obtain rfl := HFV.out hok
        have HOK := Lib.hid hok
        clear hok hx h6 h6i
        go_wp2_with (refine wpList_load_marks rfl _ 51 5 rfl (w.heap.size + 1) 32 (parseV s) Tryz.underlying51 (by kernel_rfl) rfl hM2 ?_)
        refine (cT _).mono ?_
        rintro e w1 ⟨rfl, hb1⟩
        have hR1 := hR.keep hz0 hb1
        have hM1 := hM2.keep hz1 hb1
        have hB1 := hB.trans (hb1.mono hB.size)
        go_wp2_with (first
          | (refine wpList_load_marks rfl _ 51 5 rfl (w.heap.size + 1) 32 (parseV s) Tryz.underlying51 (by kernel_rfl) rfl hM1 ?_)
          | (refine wpList_store_marks rfl _ _ 51 rfl w.heap.size 32 (fun _ => 0) (parseV s) (by kernel_rfl) rfl rfl hR1 ?_; intro w2 hR2 hG2))
        have hres := run_loadVar_marks (P := Tryz.prog) w2 51 5 w.heap.size 32 _ Tryz.underlying51 (by kernel_rfl) hR2
        refine bodyPost_ret (v := .tuple #[bytesV 32 (parseV s), .int .i64 0]) (by simp [results, Tryz.results36, asAddr, hres]) rfl ?_
        exact ⟨by rw [HOK.out]; rfl, hB1.grown hG2 hB1.size (fun k hk => by cases hk; omega)⟩
end Go.Proofs.YtbopkepjbifhhaaGreatDoor

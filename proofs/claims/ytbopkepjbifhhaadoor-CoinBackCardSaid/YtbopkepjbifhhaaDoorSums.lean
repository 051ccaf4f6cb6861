/- The walk of isthmuslaw14.CoinSums: whatever the three numbers are, it returns true. -/
import Derived.Test.YtbopkepjbifhhaaDoorSure
namespace Go.Proofs.YtbopkepjbifhhaaDoor
open Go.RowKit

theorem okAm_comm {a b : Int} (h : okAm a b) : okAm b a := ⟨h.2.1, h.1, h.2.2.2, h.2.2.1⟩
theorem addF_comm (a b : Int) : addF a b = addF b a := by
  unfold addF
  by_cases h : okAm a b
  · rw [if_pos h, if_pos (okAm_comm h), Int.add_comm]
  · rw [if_neg h, if_neg (fun k => h (okAm_comm k))]
theorem addF_err {a b : Int} (h : (addF a b).2 ≠ 0) : (addF a b).1 = 0 := by
  unfold addF at *
  split at h
  · split at h
    · rename_i h1 h2; rw [if_pos h1, if_pos h2]
    · exact absurd rfl h
  · rename_i h1; rw [if_neg h1]
theorem addF_ok {a b : Int} (h : (addF a b).2 = 0) : okAm a b ∧ a + b ≤ 1152921504606846976 ∧ (addF a b).1 = a + b := by
  unfold addF at *
  split at h
  · split at h
    · cases h
    · rename_i h1 h2; exact ⟨h1, by omega, by rw [if_pos h1, if_neg h2]⟩
  · cases h
theorem addF_of {a b : Int} (h : okAm a b) (h2 : a + b ≤ 1152921504606846976) : addF a b = (a + b, 0) := by
  unfold addF
  rw [if_pos h, if_neg (by omega)]

theorem iface_of {w : World} {v : Value} {n : Int} (h : IsErr w v n) (hn : n ≠ 0) : ∃ t x, v = .iface t x := h.iface hn

set_option maxHeartbeats 1000000 in
theorem sums_any (a b c : Int) (w : World) (hT : U8Tabs w) (hG : ErrType w) : Calls Tryd.prog 3 #[.int .i64 a, .int .i64 b, .int .i64 c] w (TruePost w) := by
  have c1 := add_any a b w
  have c2 : ∀ w1, Calls Tryd.prog 7 #[.int .i64 b, .int .i64 a] w1 (PairPost (addF a b) w1) := fun w1 => by rw [addF_comm]; exact add_any b a w1
  have cS : ∀ w1, Below w.heap.size w w1 → Calls Tryd.prog 9 #[] w1 _ := fun w1 hb => sure_any w1 (Utf8Tabs_below hT hb)
  by_cases h0 : (addF a b).2 = 0
  · obtain ⟨hok, hle, h1⟩ := addF_ok h0
    unfold PairPost at c1 c2
    rw [h1, h0] at c1 c2
    have c3 : ∀ w1, Calls Tryd.prog 7 #[.int .i64 (a + b), .int .i64 c] w1 _ := fun w1 => add_any (a + b) c w1
    have HG : ∀ w1, Below w.heap.size w w1 → ErrType w1 := fun w1 hb => (hb.cell (cell_lt hG)).trans hG
    clear h1 h0 hT hG
    obtain ⟨ha0, hb0, ha1, hb1⟩ := hok
    by_cases hx : (addF (a + b) c).2 = 0
    · obtain ⟨hok2, hle2, hx1⟩ := addF_ok hx
      have c4 : ∀ w1, Calls Tryd.prog 7 #[.int .i64 b, .int .i64 c] w1 _ := fun w1 => add_any b c w1
      have c5 : ∀ w1, Calls Tryd.prog 7 #[.int .i64 a, .int .i64 (b + c)] w1 _ := fun w1 => add_any a (b + c) w1
      obtain ⟨hs0, hc0, hs1, hc1⟩ := hok2
      have r4 : addF b c = (b + c, 0) := addF_of ⟨hb0, hc0, hb1, hc1⟩ (by omega)
      have r5 : addF a (b + c) = (a + b + c, 0) := by rw [Int.add_assoc]; exact addF_of ⟨ha0, by omega, ha1, by omega⟩ (by omega)
      unfold PairPost at c3 c4 c5
      rw [r4] at c4
      rw [r5] at c5
      rw [hx1, hx] at c3
      clear r4 r5 hx1 hx
      go_enter Tryd.func3, Tryd.ntmps3
      go_wp2_with fail
      refine c1.mono ?_
      rintro e w1 ⟨e1, rfl, hE1, hb1⟩
      go_wp2_with fail
      refine (c2 w1).mono ?_
      rintro e w2 ⟨e2, rfl, hE2, hb2⟩
      obtain rfl := hE1.zero
      obtain rfl := hE2.zero
      have q2 := hb1.trans (hb2.mono hb1.size)
      clear c1 c2
      go_wp2_with fail
      refine (num_any _ 0 w2 (.nil_ _) (HG _ q2)).mono ?_
      rintro e w3 ⟨rfl, hb3⟩
      have q3 := q2.trans (hb3.mono q2.size)
      go_wp2_with fail
      refine (num_any _ 0 w3 (.nil_ _) (HG _ q3)).mono ?_
      rintro e w4 ⟨rfl, hb4⟩
      have q4 := q3.trans (hb4.mono q3.size)
      go_wp2_with fail
      refine (c3 w4).mono ?_
      rintro e w5 ⟨e3, rfl, hE3, hb5⟩
      obtain rfl := hE3.zero
      have q5 := q4.trans (hb5.mono q4.size)
      go_wp2_with fail
      refine (c4 w5).mono ?_
      rintro e w6 ⟨e4, rfl, hE4, hb6⟩
      obtain rfl := hE4.zero
      have q6 := q5.trans (hb6.mono q5.size)
      go_wp2_with fail
      refine (c5 w6).mono ?_
      rintro e w7 ⟨e5, rfl, hE5, hb7⟩
      obtain rfl := hE5.zero
      have q7 := q6.trans (hb7.mono q6.size)
      go_wp2_with fail
      refine (cS w7 q7).mono ?_
      rintro e w8 ⟨rfl, hb8⟩
      go_wp2
      go_ret
      exact ⟨rfl, q7.trans (hb8.mono q7.size)⟩
    · have hx1 := addF_err hx
      unfold PairPost at c3
      rw [hx1] at c3
      generalize hn : (addF (a + b) c).2 = n at *
      clear hx1 hn
      go_enter Tryd.func3, Tryd.ntmps3
      go_wp2_with fail
      refine c1.mono ?_
      rintro e w1 ⟨e1, rfl, hE1, hb1⟩
      go_wp2_with fail
      refine (c2 w1).mono ?_
      rintro e w2 ⟨e2, rfl, hE2, hb2⟩
      obtain rfl := hE1.zero
      obtain rfl := hE2.zero
      have q2 := hb1.trans (hb2.mono hb1.size)
      clear c1 c2
      go_wp2_with fail
      refine (num_any _ 0 w2 (.nil_ _) (HG _ q2)).mono ?_
      rintro e w3 ⟨rfl, hb3⟩
      have q3 := q2.trans (hb3.mono q2.size)
      go_wp2_with fail
      refine (num_any _ 0 w3 (.nil_ _) (HG _ q3)).mono ?_
      rintro e w4 ⟨rfl, hb4⟩
      have q4 := q3.trans (hb4.mono q3.size)
      go_wp2_with fail
      refine (c3 w4).mono ?_
      rintro e w5 ⟨e3, rfl, hE3, hb5⟩
      obtain ⟨t1, x1, rfl⟩ := hE3.iface hx
      have q5 := q4.trans (hb5.mono q4.size)
      go_wp2_with fail
      refine (cS w5 q5).mono ?_
      rintro e w8 ⟨rfl, hb8⟩
      go_wp2
      go_ret
      exact ⟨rfl, q5.trans (hb8.mono q5.size)⟩
  · have h1 := addF_err h0
    unfold PairPost at c1 c2
    rw [h1] at c1 c2
    generalize hn : (addF a b).2 = n at *
    have HG : ∀ w1, Below w.heap.size w w1 → ErrType w1 := fun w1 hb => (hb.cell (cell_lt hG)).trans hG
    clear h1 hn hT hG
    go_enter Tryd.func3, Tryd.ntmps3
    go_wp2_with fail
    refine c1.mono ?_
    rintro e w1 ⟨e1, rfl, hE1, hb1⟩
    go_wp2_with fail
    refine (c2 w1).mono ?_
    rintro e w2 ⟨e2, rfl, hE2, hb2⟩
    have hE1' := hE1.keep hb2
    obtain ⟨t1, x1, rfl⟩ := hE1.iface h0
    obtain ⟨t2, x2, rfl⟩ := hE2.iface h0
    have q2 := hb1.trans (hb2.mono hb1.size)
    clear c1 c2
    go_wp2_with fail
    refine (num_any _ n w2 hE1' (HG _ q2)).mono ?_
    rintro e w3 ⟨rfl, hb3⟩
    have q3 := q2.trans (hb3.mono q2.size)
    go_wp2_with fail
    refine (num_any _ n w3 (hE2.keep hb3) (HG _ q3)).mono ?_
    rintro e w4 ⟨rfl, hb4⟩
    have q4 := q3.trans (hb4.mono q3.size)
    go_wp2_with fail
    refine (cS w4 q4).mono ?_
    rintro e w5 ⟨rfl, hb5⟩
    go_wp2
    go_ret
    exact ⟨rfl, q4.trans (hb5.mono q4.size)⟩
end Go.Proofs.YtbopkepjbifhhaaDoor

/- The walk of isthmuslaw14.CoinAmounts: the program's sum and rest are the document's. -/
import Derived.Test.YtbopkepjbifhhaaDoorSums
namespace Go.Proofs.YtbopkepjbifhhaaDoor
open Go.RowKit

def outB (n : Int) : Bool := decide (n < 0) || decide (1152921504606846976 < n)
theorem refOut_any (n : Int) (w : World) : Calls Tryd.prog 28 #[.int .i64 n] w fun e w' => e = .returned (.bool (outB n)) ∧ w' = w := by
  by_cases h : n < 0
  · have hr : outB n = true := by simp [outB, h]
    rw [hr]
    clear hr
    go_enter Tryd.func28, Tryd.ntmps28
    go_wp2
    go_ret
    exact ⟨rfl, rfl⟩
  · by_cases h2 : 1152921504606846976 < n
    · have hr : outB n = true := by simp [outB, h2]
      rw [hr]
      clear hr
      go_enter Tryd.func28, Tryd.ntmps28
      go_wp2
      go_ret
      exact ⟨ret_bool (by simp), rfl⟩
    · have hr : outB n = false := by simp [outB, h, h2]
      rw [hr]
      clear hr
      go_enter Tryd.func28, Tryd.ntmps28
      go_wp2
      go_ret
      exact ⟨ret_bool (by simp), rfl⟩
theorem okAm_iff (a b : Int) : okAm a b ↔ outB a = false ∧ outB b = false := by
  simp [okAm, outB]
  omega

theorem refAdd_any (a b : Int) (w : World) : Calls Tryd.prog 10 #[.int .i64 a, .int .i64 b] w fun e w' => e = .returned (.tuple #[.int .i64 (addF a b).1, .int .i64 (addF a b).2]) ∧ w' = w := by
  have c1 := refOut_any a w
  have c2 := refOut_any b w
  cases h1 : outB a
  · cases h2 : outB b
    · have hok : okAm a b := (okAm_iff a b).2 ⟨h1, h2⟩
      rw [h1] at c1
      rw [h2] at c2
      by_cases hs : 1152921504606846976 < a + b
      · have hr : addF a b = (0, 5) := by rw [addF, if_pos hok, if_pos hs]
        rw [hr]
        obtain ⟨q1, q2, q3, q4⟩ := hok
        clear hr h1 h2
        go_enter Tryd.func10, Tryd.ntmps10
        go_wp2_with fail
        refine c1.mono ?_
        rintro e w1 ⟨rfl, rfl⟩
        go_wp2_with fail
        refine c2.mono ?_
        rintro e w2 ⟨rfl, rfl⟩
        go_wp2
        go_ret2
        exact ⟨rfl, rfl⟩
      · have hr : addF a b = (a + b, 0) := by rw [addF, if_pos hok, if_neg hs]
        rw [hr]
        obtain ⟨q1, q2, q3, q4⟩ := hok
        clear hr h1 h2
        go_enter Tryd.func10, Tryd.ntmps10
        go_wp2_with fail
        refine c1.mono ?_
        rintro e w1 ⟨rfl, rfl⟩
        go_wp2_with fail
        refine c2.mono ?_
        rintro e w2 ⟨rfl, rfl⟩
        go_wp2
        go_ret2
        exact ⟨rfl, rfl⟩
    · have hr : addF a b = (0, 4) := by rw [addF, if_neg (fun h => by rw [((okAm_iff a b).1 h).2] at h2; cases h2)]
      rw [h1] at c1
      rw [h2] at c2
      rw [hr]
      clear hr h1 h2
      go_enter Tryd.func10, Tryd.ntmps10
      go_wp2_with fail
      refine c1.mono ?_
      rintro e w1 ⟨rfl, rfl⟩
      go_wp2_with fail
      refine c2.mono ?_
      rintro e w2 ⟨rfl, rfl⟩
      go_wp2
      go_ret2
      exact ⟨rfl, rfl⟩
  · have hr : addF a b = (0, 4) := by rw [addF, if_neg (fun h => by rw [((okAm_iff a b).1 h).1] at h1; cases h1)]
    rw [h1] at c1
    rw [hr]
    clear hr h1
    go_enter Tryd.func10, Tryd.ntmps10
    go_wp2_with fail
    refine c1.mono ?_
    rintro e w1 ⟨rfl, rfl⟩
    go_wp2
    go_ret2
    exact ⟨rfl, rfl⟩

theorem refSub_any (a b : Int) (w : World) : Calls Tryd.prog 12 #[.int .i64 a, .int .i64 b] w fun e w' => e = .returned (.tuple #[.int .i64 (subF a b).1, .int .i64 (subF a b).2]) ∧ w' = w := by
  have c1 := refOut_any a w
  have c2 := refOut_any b w
  cases h1 : outB a
  · cases h2 : outB b
    · have hok : okAm a b := (okAm_iff a b).2 ⟨h1, h2⟩
      rw [h1] at c1
      rw [h2] at c2
      by_cases hs : a < b
      · have hr : subF a b = (0, 41) := by rw [subF, if_pos hok, if_pos hs]
        rw [hr]
        obtain ⟨q1, q2, q3, q4⟩ := hok
        clear hr h1 h2
        go_enter Tryd.func12, Tryd.ntmps12
        go_wp2_with fail
        refine c1.mono ?_
        rintro e w1 ⟨rfl, rfl⟩
        go_wp2_with fail
        refine c2.mono ?_
        rintro e w2 ⟨rfl, rfl⟩
        go_wp2
        go_ret2
        exact ⟨rfl, rfl⟩
      · have hr : subF a b = (a - b, 0) := by rw [subF, if_pos hok, if_neg hs]
        rw [hr]
        obtain ⟨q1, q2, q3, q4⟩ := hok
        clear hr h1 h2
        go_enter Tryd.func12, Tryd.ntmps12
        go_wp2_with fail
        refine c1.mono ?_
        rintro e w1 ⟨rfl, rfl⟩
        go_wp2_with fail
        refine c2.mono ?_
        rintro e w2 ⟨rfl, rfl⟩
        go_wp2
        go_ret2
        exact ⟨rfl, rfl⟩
    · have hr : subF a b = (0, 4) := by rw [subF, if_neg (fun h => by rw [((okAm_iff a b).1 h).2] at h2; cases h2)]
      rw [h1] at c1
      rw [h2] at c2
      rw [hr]
      clear hr h1 h2
      go_enter Tryd.func12, Tryd.ntmps12
      go_wp2_with fail
      refine c1.mono ?_
      rintro e w1 ⟨rfl, rfl⟩
      go_wp2_with fail
      refine c2.mono ?_
      rintro e w2 ⟨rfl, rfl⟩
      go_wp2
      go_ret2
      exact ⟨rfl, rfl⟩
  · have hr : subF a b = (0, 4) := by rw [subF, if_neg (fun h => by rw [((okAm_iff a b).1 h).1] at h1; cases h1)]
    rw [h1] at c1
    rw [hr]
    clear hr h1
    go_enter Tryd.func12, Tryd.ntmps12
    go_wp2_with fail
    refine c1.mono ?_
    rintro e w1 ⟨rfl, rfl⟩
    go_wp2
    go_ret2
    exact ⟨rfl, rfl⟩

theorem subF_back {a b : Int} (h : okAm a b) (h2 : a + b ≤ 1152921504606846976) : subF (a + b) b = (a, 0) := by
  obtain ⟨h0, h1, h3, h4⟩ := h
  rw [subF, if_pos ⟨by omega, h1, h2, h4⟩, if_neg (by omega), Int.add_sub_cancel]

set_option maxHeartbeats 1000000 in
theorem amountsLaw_any (a b : Int) (w : World) (hT : U8Tabs w) (hG : ErrType w) : Calls Tryd.prog 4 #[.int .i64 a, .int .i64 b] w (TruePost w) := by
  have c1 := add_any a b w
  have c2 : ∀ w1, Calls Tryd.prog 10 #[.int .i64 a, .int .i64 b] w1 _ := fun w1 => refAdd_any a b w1
  have c3 : ∀ w1, Calls Tryd.prog 11 #[.int .i64 a, .int .i64 b] w1 _ := fun w1 => sub_any a b w1
  have c4 : ∀ w1, Calls Tryd.prog 12 #[.int .i64 a, .int .i64 b] w1 _ := fun w1 => refSub_any a b w1
  have cS : ∀ w1, Below w.heap.size w w1 → Calls Tryd.prog 9 #[] w1 _ := fun w1 hb => sure_any w1 (Utf8Tabs_below hT hb)
  have HG : ∀ w1, Below w.heap.size w w1 → ErrType w1 := fun w1 hb => (hb.cell (cell_lt hG)).trans hG
  unfold PairPost at c1 c3
  by_cases h0 : (addF a b).2 = 0
  · obtain ⟨hok, hle, h1⟩ := addF_ok h0
    have c5 : ∀ w1, Calls Tryd.prog 11 #[.int .i64 (a + b), .int .i64 b] w1 _ := fun w1 => sub_any (a + b) b w1
    unfold PairPost at c5
    rw [subF_back hok hle] at c5
    rw [h1, h0] at c1 c2
    obtain ⟨o1, o2, o3, o4⟩ := hok
    clear hT hG h0 h1
    generalize (subF a b).1 = p at *
    generalize (subF a b).2 = m at *
    go_enter Tryd.func4, Tryd.ntmps4
    go_wp2_with fail
    refine c1.mono ?_
    rintro e w1 ⟨e1, rfl, hE1, q1⟩
    clear c1
    go_wp2_with fail
    refine (c2 w1).mono ?_
    rintro e w1' ⟨rfl, rfl⟩
    go_wp2_with fail
    refine (c3 w1').mono ?_
    rintro e w2 ⟨e2, rfl, hE2, hb2⟩
    have q2 := q1.trans (hb2.mono q1.size)
    have hE1' := hE1.keep hb2
    clear c3 hE1 q1 hb2
    go_wp2_with fail
    refine (c4 w2).mono ?_
    rintro e w2' ⟨rfl, rfl⟩
    obtain rfl := hE1'.zero
    go_wp2_with fail
    refine (num_any _ _ w2' hE1' (HG _ q2)).mono ?_
    rintro e w3 ⟨rfl, hb3⟩
    have q3 := q2.trans (hb3.mono q2.size)
    have hE2' := hE2.keep hb3
    clear hE1' hE2 hb3 q2
    go_wp2_with fail
    refine (num_any _ _ w3 hE2' (HG _ q3)).mono ?_
    rintro e w4 ⟨rfl, hb4⟩
    have q4 := q3.trans (hb4.mono q3.size)
    clear hE2' hb4 q3
    go_wp2_with fail
    refine (c5 w4).mono ?_
    rintro e w5 ⟨e5, rfl, hE5, hb5⟩
    obtain rfl := hE5.zero
    have q5 := q4.trans (hb5.mono q4.size)
    go_wp2_with fail
    refine (cS w5 q5).mono ?_
    rintro e w6 ⟨rfl, hb6⟩
    go_wp2
    go_ret
    exact ⟨rfl, q5.trans (hb6.mono q5.size)⟩
  · clear hT hG
    generalize (addF a b).1 = s at *
    generalize (addF a b).2 = n at *
    generalize (subF a b).1 = p at *
    generalize (subF a b).2 = m at *
    go_enter Tryd.func4, Tryd.ntmps4
    go_wp2_with fail
    refine c1.mono ?_
    rintro e w1 ⟨e1, rfl, hE1, q1⟩
    clear c1
    go_wp2_with fail
    refine (c2 w1).mono ?_
    rintro e w1' ⟨rfl, rfl⟩
    go_wp2_with fail
    refine (c3 w1').mono ?_
    rintro e w2 ⟨e2, rfl, hE2, hb2⟩
    have q2 := q1.trans (hb2.mono q1.size)
    have hE1' := hE1.keep hb2
    clear c3 hE1 q1 hb2
    go_wp2_with fail
    refine (c4 w2).mono ?_
    rintro e w2' ⟨rfl, rfl⟩
    obtain ⟨t1, x1, rfl⟩ := hE1'.iface h0
    go_wp2_with fail
    refine (num_any _ _ w2' hE1' (HG _ q2)).mono ?_
    rintro e w3 ⟨rfl, hb3⟩
    have q3 := q2.trans (hb3.mono q2.size)
    have hE2' := hE2.keep hb3
    clear hE1' hE2 hb3 q2
    go_wp2_with fail
    refine (num_any _ _ w3 hE2' (HG _ q3)).mono ?_
    rintro e w4 ⟨rfl, hb4⟩
    have q4 := q3.trans (hb4.mono q3.size)
    clear hE2' hb4 q3
    go_wp2_with fail
    refine (cS w4 q4).mono ?_
    rintro e w6 ⟨rfl, hb6⟩
    go_wp2
    go_ret
    exact ⟨rfl, q4.trans (hb6.mono q4.size)⟩
end Go.Proofs.YtbopkepjbifhhaaDoor

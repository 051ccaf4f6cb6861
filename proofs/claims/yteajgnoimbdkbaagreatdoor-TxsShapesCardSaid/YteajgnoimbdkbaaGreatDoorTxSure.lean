/- The law's plain and sure. -/
import Derived.Test.YteajgnoimbdkbaaGreatDoorTxBackLaw
namespace Go.Proofs.YteajgnoimbdkbaaGreatDoor
open Go.RowKit

def plainTx : TxD := ⟨[97, 110, 110], 0, [97, 116, 111, 109], 0, [⟨1, [[98, 111, 98], [97, 116, 111, 109]], [1], []⟩], []⟩
theorem plain_ok : txN plainTx = 0 := by decide +kernel
theorem plain_len : (encL plainTx).length ≤ 65536 := by decide +kernel
theorem plain_ints : TxInts plainTx := by
  refine ⟨⟨by decide, by decide⟩, ⟨by decide, by decide⟩, ?_⟩
  intro m hm
  simp only [plainTx, List.mem_singleton] at hm
  subst hm
  exact ⟨⟨by decide, by decide⟩, fun n hn => by simp at hn; subst hn; exact ⟨by decide, by decide⟩⟩
theorem plain_small : TxSmall plainTx := by
  refine ⟨by decide, by decide, by decide, by decide, ?_⟩
  intro m hm
  simp only [plainTx, List.mem_singleton] at hm
  subst hm
  exact ⟨by decide, by decide, by decide, by decide, by decide⟩
theorem plain_enc : encF plainTx = (encL plainTx, 0) := by rw [encF, if_neg (by simp [plain_ok]), if_neg (by have := plain_len; omega)]
theorem plain_dec : decF (encL plainTx) = (plainTx, 0) := dec_enc plain_ok plain_ints plain_len

theorem four_boxes (w : World) (a b c d : Obj) : ((((w.alloc a).alloc b).alloc c).alloc d).heap[w.heap.size]? = some a ∧ ((((w.alloc a).alloc b).alloc c).alloc d).heap[w.heap.size + 1]? = some b ∧ ((((w.alloc a).alloc b).alloc c).alloc d).heap[w.heap.size + 1 + 1]? = some c ∧ ((((w.alloc a).alloc b).alloc c).alloc d).heap[w.heap.size + 1 + 1 + 1]? = some d := by
  refine ⟨?_, ?_, ?_, ?_⟩
  · rw [heap_alloc_old _ _ (by simp <;> omega), heap_alloc_old _ _ (by simp <;> omega), heap_alloc_old _ _ (by simp), heap_alloc_new]
  · rw [heap_alloc_old _ _ (by simp <;> omega), heap_alloc_old _ _ (by simp)]
    have := heap_alloc_new (w.alloc a) b
    rwa [World.size_alloc] at this
  · rw [heap_alloc_old _ _ (by simp)]
    have := heap_alloc_new ((w.alloc a).alloc b) c
    rwa [World.size_alloc, World.size_alloc] at this
  · have := heap_alloc_new (((w.alloc a).alloc b).alloc c) d
    rwa [World.size_alloc, World.size_alloc, World.size_alloc] at this
set_option maxRecDepth 100000 in
set_option maxHeartbeats 4000000 in
theorem plain_any (w : World) : Calls Tryz.prog 7 #[] w fun e w' => ∃ v, e = .returned v ∧ TxAt w' v plainTx ∧ Below w.heap.size w w' := by
  go_enter Tryz.func7, Tryz.ntmps7
  go_wp2_with fail
  obtain ⟨x0, x1, x2, x3⟩ := four_boxes w (.cells #[.string ⟨#[97, 110, 110]⟩, .int .i64 0, .string ⟨#[97, 116, 111, 109]⟩, .int .i64 0, .slice (some ⟨w.heap.size + 1 + 1 + 1, 0, none⟩) 1 1, .slice none 0 0] 29) (.cells #[.string ⟨#[98, 111, 98]⟩, .string ⟨#[97, 116, 111, 109]⟩] 9) (.cells #[.int .i64 1] 3) (.cells #[.int .i64 1, .slice (some ⟨w.heap.size + 1, 0, none⟩) 2 2, .slice (some ⟨w.heap.size + 1 + 1, 0, none⟩) 1 1, .slice none 0 0] 35)
  refine bodyPost_ret (v := .agg #[.string ⟨#[97, 110, 110]⟩, .int .i64 0, .string ⟨#[97, 116, 111, 109]⟩, .int .i64 0, .slice (some ⟨w.heap.size + 1 + 1 + 1, 0, none⟩) 1 1, .slice none 0 0]) (by simp [results, Tryz.results7, go_sem]) rfl ?_
  refine ⟨_, rfl, ⟨_, _, rfl, ?_, Bts.nil_ _⟩, (((((Below.refl _ w).alloc (Nat.le_refl _) _).alloc (by simp) _).alloc (by simp; omega) _).alloc (by simp; omega) _)⟩
  refine ⟨[⟨1, .slice (some ⟨w.heap.size + 1, 0, none⟩) 2 2, .slice (some ⟨w.heap.size + 1 + 1, 0, none⟩) 1 1, .slice none 0 0⟩], Row.of_own (own_block 0 x3 (Nat.zero_le _) rfl (by decide)), ?_⟩
  intro j p m hp hm
  rcases j with _ | j
  · obtain rfl : _ = p := by simpa using hp
    obtain rfl : _ = m := by simpa [plainTx] using hm
    exact ⟨rfl, Row.strs (Row.of_own (own_block 0 x1 (Nat.zero_le _) rfl (by decide))), Row.of_own (own_block 0 x2 (Nat.zero_le _) rfl (by decide)), ⟨[], Row.nil_ _ _, by simp, by simp⟩⟩
  · simp at hp
set_option maxRecDepth 100000 in
set_option maxHeartbeats 4000000 in
theorem txSure_any (w : World) (hT : U8Tabs w) (hM : MaxLenAt w) : Calls Tryz.prog 11 #[] w (TruePost w) := by
  have cP := plain_any w
  have cE : ∀ W v, Below w.heap.size w W → TxAt W v plainTx → Calls Tryz.prog 12 #[v] W (EncPost (encL plainTx, 0) W) := fun W v hW hv => by
    have := encode_any v plainTx W hv plain_small plain_ints (by have := plain_len; omega) (Utf8Tabs_below hT hW) (hM.keep hW)
    rwa [plain_enc] at this
  have cD : ∀ W v, Below w.heap.size w W → Bts W v (encL plainTx) → Calls Tryz.prog 18 #[v] W (DecPost (plainTx, 0) W) := fun W v hW hv => by
    have := decode_any v _ W hv (by have := plain_len; omega) (Utf8Tabs_below hT hW) (hM.keep hW)
    rwa [plain_dec] at this
  unfold EncPost at cE
  unfold DecPost at cD
  simp only at cE cD
  generalize encL plainTx = L at *
  go_enter Tryz.func11, Tryz.ntmps11
  go_wp2_with fail
  refine cP.mono ?_
  rintro e w1 ⟨v, rfl, hv, hb1⟩
  go_wp2_with fail
  refine (cE _ _ hb1 hv).mono ?_
  rintro e w2 ⟨A, c, ev, rfl, hB, hE, hb2⟩
  obtain rfl := hE.zero
  have q2 := hb1.trans (hb2.mono hb1.size)
  go_wp2_with fail
  refine (cD _ _ q2 hB).mono ?_
  rintro e w3 ⟨v3, ev3, rfl, hv3, hE3, hb3⟩
  obtain rfl := hE3.zero
  have q3 := q2.trans (hb3.mono q2.size)
  obtain ⟨ms, sg, rfl, hm, hs⟩ := hv3
  obtain ⟨A3, c3, rfl⟩ := hm.form
  obtain ⟨A4, c4, rfl⟩ := hs.form
  obtain ⟨bb, o, P1, P2, P3, p1, p2, p3, rfl, m0, m1, m2, m3, hat⟩ := hm.at (i := 0) (m := ⟨1, [[98, 111, 98], [97, 116, 111, 109]], [1], []⟩) rfl
  have hbb := cell_lt m0
  simp only [plainTx, List.length_cons, List.length_nil, txV] at *
  simp only [Nat.zero_mul, Nat.add_zero] at m0 m1 m2 m3
  rw [show strOf [97, 110, 110] = ⟨#[97, 110, 110]⟩ from rfl]
  go_wp2_with fail
  go_ret
  exact ⟨rfl, q3.alloc q3.size _⟩
end Go.Proofs.YteajgnoimbdkbaaGreatDoor

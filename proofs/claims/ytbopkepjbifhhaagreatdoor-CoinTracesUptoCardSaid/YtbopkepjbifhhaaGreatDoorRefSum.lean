/- isthmusref01.Sum: the document's SHA-256 is the program's. -/
import Derived.Test.YtbopkepjbifhhaaGreatDoorRefTurn
import Derived.Test.YtbopkepjbifhhaaGreatDoorSumLaw
import Derived.Test.YtbopkepjbifhhaaGreatDoorText
import Derived.StillTailTactics
import Derived.BigRegion
import Derived.BigQuiet
namespace Go.Proofs.YtbopkepjbifhhaaGreatDoor
open Go.RowKit

theorem infoU8 : (Tryz.prog.info? 5).map (fun i => (i.zero, i.size, i.bytes)) = some (some (.int .u8 0), 1, 1) := by kernel_rfl
theorem octets_one (n : Nat) (f : Nat → Int) : ∀ u ∈ octets n f, u.oneCell' = true := by
  intro u hu
  obtain ⟨i, _, rfl⟩ := List.mem_map.1 hu
  rfl
theorem octets_succ (n : Nat) (f : Nat → Int) : octets (n + 1) f = octets n f ++ [.int .u8 (f n)] := by simp [octets, List.range_succ]
theorem octets_congr {n : Nat} {f g : Nat → Int} (h : ∀ i, i < n → f i = g i) : octets n f = octets n g := by
  apply List.map_congr_left
  intro i hi
  rw [h i (List.mem_range.1 hi)]

/-- What stands while the document's sum is under way: the rounds' words, the state, the result's place. -/
structure SumBase (w wq : World) (K : Nat) (s : Nat → Int) : Prop where
  hk : Words wq K 64 kF
  hs : Words wq (K + 1) 8 s
  hr : Marks wq w.heap.size 32 (fun _ => 0)
  hb : Below w.heap.size w wq
  hz : K + 2 ≤ wq.heap.size
theorem SumBase.keep {w wq wr : World} {K : Nat} {s : Nat → Int} (h : SumBase w wq K s) (hK : w.heap.size < K) (hb : Below (K + 2) wq wr) : SumBase w wr K s :=
  ⟨⟨fun i hi => (hb.cell (p := ⟨K, i, none⟩) (show K < K + 2 by omega)).trans (h.hk.1 i hi), fun o => (hb.frozen (p := ⟨K, o, none⟩) (show K < K + 2 by omega)).trans (h.hk.2 o)⟩,
   ⟨fun i hi => (hb.cell (p := ⟨K + 1, i, none⟩) (show K + 1 < K + 2 by omega)).trans (h.hs.1 i hi), fun o => (hb.frozen (p := ⟨K + 1, o, none⟩) (show K + 1 < K + 2 by omega)).trans (h.hs.2 o)⟩,
   ⟨fun i hi => (hb.cell (p := ⟨w.heap.size, i, none⟩) (show w.heap.size < K + 2 by omega)).trans (h.hr.1 i hi), fun o => (hb.frozen (p := ⟨w.heap.size, o, none⟩) (show w.heap.size < K + 2 by omega)).trans (h.hr.2 o)⟩,
   h.hb.trans (hb.mono (by omega)), Nat.le_trans h.hz hb.size⟩
theorem tailF_low (b : Nat → Int) (n l : Nat) (many : Int) (i : Nat) (hi : i < l) : tailF b n many (l + 8) i = lastF b n i := by
  rw [tailF, if_neg (by omega)]

theorem words_at {w : World} {g : Nat} {s : Nat → Int} (h : Words w g 8 s) : Words w g 8 (eightOf s).at := by
  refine ⟨fun i hi => ?_, h.2⟩
  have e : i = 0 ∨ i = 1 ∨ i = 2 ∨ i = 3 ∨ i = 4 ∨ i = 5 ∨ i = 6 ∨ i = 7 := by omega
  rcases e with rfl | rfl | rfl | rfl | rfl | rfl | rfl | rfl <;> exact h.1 _ (by omega)
/-- What a round of the document reads. -/
structure RoundAt (wq : World) (U V K t : Nat) (x : Eight) (kk u : Int) : Prop where
  hX : Words wq U 8 x.at
  k0 : wq.cell? ⟨K, t, none⟩ = some (.int .u32 kk)
  w0 : wq.cell? ⟨V, t, none⟩ = some (.int .u32 u)
  lu : U < wq.heap.size
  lv : V < wq.heap.size
  lk : K < wq.heap.size
theorem RoundAt.drewN {wq : World} {U V K t : Nat} {x : Eight} {kk u : Int} (h : RoundAt wq U V K t x kk u) (n : Nat) : RoundAt (wq.drewN n) U V K t x kk u := ⟨h.hX.drewN n, h.k0, h.w0, h.lu, h.lv, h.lk⟩
theorem turnZ (x k : Int) (w : World) (h0 : 0 < k) (h1 : k < 32) :
    Calls Tryz.prog 50 #[.int .u32 x, .int .u64 k] w fun e w' => e = .returned (.int .u32 (rotF x (32 - k.toNat))) ∧ w' = w := by
  have h := turn_any x k.toNat w (by omega) (by omega)
  rwa [Int.toNat_of_nonneg (by omega)] at h

set_option maxRecDepth 100000 in
set_option maxHeartbeats 60000000 in
theorem refSum_any (v : Value) (n : Nat) (b : Nat → Int) (w : World) (hr : Row w v 1 n (octets n b)) (hn : n ≤ 140737488355000) :
    Calls Tryz.prog 28 #[v] w fun e w' => e = .returned (bytesV 32 (shaF b n)) ∧ Below w.heap.size w w' := by
  have hR0 := marks_zeros w 51 32
  have hb0 := below_alloc w (.cells (Array.replicate 32 (.int .u8 0)) 51)
  have hrk : ∀ w', Below w.heap.size w w' → Row w' v 1 n (octets n b) := fun w' h => hr.keep h
  obtain ⟨A, c, rfl, _⟩ := hr.2
  clear hr
  obtain ⟨i0, hi0, hz0, hz1, hz2⟩ := info_parts infoU8
  have r17 : ∀ x W, Calls Tryz.prog 50 #[.int .u32 x, .int .u64 17] W _ := fun x W => turn_any x 17 W (by decide) (by decide)
  have r19 : ∀ x W, Calls Tryz.prog 50 #[.int .u32 x, .int .u64 19] W _ := fun x W => turn_any x 19 W (by decide) (by decide)
  have r7 : ∀ x W, Calls Tryz.prog 50 #[.int .u32 x, .int .u64 7] W _ := fun x W => turn_any x 7 W (by decide) (by decide)
  have r18 : ∀ x W, Calls Tryz.prog 50 #[.int .u32 x, .int .u64 18] W _ := fun x W => turn_any x 18 W (by decide) (by decide)
  go_enter Tryz.func28, Tryz.ntmps28
  go_wp2_with fail
  refine (constants_any _).mono ?_
  rintro e w1 ⟨rfl, hb1⟩
  have hR1 := hR0.keep (by simp) hb1
  have hB1 := hb0.trans (hb1.mono hb0.size)
  have hz1' : w.heap.size < w1.heap.size := cell_lt (hR1.1 0 (by omega))
  have hA := words_zeros w1 89 64
  have hC := words_zeros (w1.alloc (.cells (Array.replicate 64 (.int .u32 0)) 89)) 83 8
  rw [World.size_alloc] at hC
  rw [← zero64] at hA hC
  have hA2 := hA.keep (by simp) (below_alloc _ (.cells (Array.replicate 8 (.int .u32 0)) 83))
  have hB0 := (below_alloc w1 (.cells #[Value.int .u32 0, Value.int .u32 0, Value.int .u32 0, Value.int .u32 0, Value.int .u32 0, Value.int .u32 0, Value.int .u32 0, Value.int .u32 0, Value.int .u32 0, Value.int .u32 0, Value.int .u32 0, Value.int .u32 0, Value.int .u32 0, Value.int .u32 0, Value.int .u32 0, Value.int .u32 0, Value.int .u32 0, Value.int .u32 0, Value.int .u32 0, Value.int .u32 0, Value.int .u32 0, Value.int .u32 0, Value.int .u32 0, Value.int .u32 0, Value.int .u32 0, Value.int .u32 0, Value.int .u32 0, Value.int .u32 0, Value.int .u32 0, Value.int .u32 0, Value.int .u32 0, Value.int .u32 0, Value.int .u32 0, Value.int .u32 0, Value.int .u32 0, Value.int .u32 0, Value.int .u32 0, Value.int .u32 0, Value.int .u32 0, Value.int .u32 0, Value.int .u32 0, Value.int .u32 0, Value.int .u32 0, Value.int .u32 0, Value.int .u32 0, Value.int .u32 0, Value.int .u32 0, Value.int .u32 0, Value.int .u32 0, Value.int .u32 0, Value.int .u32 0, Value.int .u32 0, Value.int .u32 0, Value.int .u32 0, Value.int .u32 0, Value.int .u32 0, Value.int .u32 0, Value.int .u32 0, Value.int .u32 0, Value.int .u32 0, Value.int .u32 0, Value.int .u32 0, Value.int .u32 0, Value.int .u32 0] 89)).alloc (by simp) (.cells (Array.replicate 8 (.int .u32 0)) 83)
  have hmx : 0 + n ≤ maxLen := by unfold maxLen; omega
  have hmy : (0 + n) * 1 ≤ 140737488355328 := by omega
  have hmx2 : n + 1 ≤ maxLen := by unfold maxLen; omega
  have hmy2 : (n + 1) * 1 ≤ 140737488355328 := by omega
  have hone : ∀ u ∈ [Value.int .u8 128], u.oneCell' = true := by simp [Value.oneCell']
  go_wp2_with (first
    | (refine wpList_store_words rfl _ _ 89 rfl w1.heap.size 64 (fun _ => 0) kF (by kernel_rfl) rfl rfl hA2 ?_; intro w3 hA3 hG3; have hC3 := hC.grown (by simp) hG3 (by simp); have hB3 := hB0.grown hG3 hB0.size (fun k hk => by cases hk; omega); have hs3 := hG3.size; rw [World.size_alloc, World.size_alloc] at hs3)
    | (refine wpList_store_words rfl _ _ 83 rfl (w1.heap.size + 1) 8 (fun _ => 0) startF (by kernel_rfl) rfl rfl hC3 ?_; intro w4 hC4 hG4; have hA4 := hA3.grown (by omega) hG4 (by simp); have hB4 := hB3.grown hG4 (by omega) (fun k hk => by cases hk; omega); have hs4 := Nat.le_trans hs3 hG4.size; have hrow4 := hrk w4 (hB1.trans (hB4.mono hB1.size)))
    | (at_builtin; refine wpList_append_row rfl _ _ 53 rfl (w1.heap.size + 2) 5 i0 (.int .u8 0) 1 1 Tryz.underlying53 hi0 hz0 hz1 hz2 rfl (by decide) (.slice none 0 0) 0 [] rfl (World.ownsRow_nil _ _ _ _) (.slice A n c) n (octets n b) rfl hrow4 (octets_one n b) hmx hmy hs4 ?_; intro A5 c5 w5 hown5 hgrow5 _; simp only [Nat.zero_add, List.nil_append] at hown5; have hg5 := below_of_grown hgrow5; have hs5 := Nat.le_trans hs4 hg5.size; have hrow5 : Row (w5.alloc (.cells #[.int .u8 128] 5)) (.slice (some ⟨w5.heap.size, 0, none⟩) 1 1) 1 1 [.int .u8 128] := Row.of_own (own_block (base := w5.heap.size) (heap_alloc_new w5 _) (Nat.le_refl _) rfl (by decide)); have hown5' := hown5.alloc (.cells #[.int .u8 128] 5); have hs5' : w1.heap.size + 2 ≤ (w5.alloc (.cells #[.int .u8 128] 5)).heap.size := by rw [World.size_alloc]; omega)
    | (at_builtin; refine wpList_append_row rfl _ _ 53 rfl (w1.heap.size + 2) 5 i0 (.int .u8 0) 1 1 Tryz.underlying53 hi0 hz0 hz1 hz2 rfl (by decide) (.slice A5 n c5) n (octets n b) rfl hown5' (.slice (some ⟨w5.heap.size, 0, none⟩) 1 1) 1 [.int .u8 128] rfl hrow5 hone hmx2 hmy2 hs5' ?_; intro A6 c6 w6 hown6 hgrow6 _))
  have hb6 : Below (w1.heap.size + 2) w4 w6 := ((hg5.mono hs4).alloc hs5 _).grown hgrow6 hs5' (fun k hk => (hown5'.lt k hk).1)
  have hbase := (SumBase.mk hA4 hC4 (hR1.keep hz1' hB4) (hB1.trans (hB4.mono hB1.size)) hs4 : SumBase w w4 w1.heap.size startF).keep hz1' hb6
  have hown : w6.ownsRow (w1.heap.size + 2) 5 1 (.slice A6 (n + 1) c6) (n + 1) (octets (n + 1) (lastF b n)) := by
    rw [octets_succ, show lastF b n n = 128 by simp [lastF], octets_congr (g := b) (fun i hi => by rw [lastF, if_neg (by omega), if_pos hi])]
    exact hown6
  clear hb6 hown6 hgrow6 hown5' hown5 hgrow5 hrow5 hrow4 hs5 hs5' hg5 hA4 hC4 hB4 hA3 hC3 hB3 hG3 hG4 hs3 hs4 hA hC hA2 hB0 hR1 hB1 hb1 hb0 hR0 hone hmx hmy hmx2 hmy2 hrk
  generalize w1.heap.size = K at *
  have hzK := Lib.hid hz1'
  go_loopg [5] ((119 - n % 64) % 64) (fun k v wq => ∃ (l : Nat) (A' : Option Addr) (c' : Nat), l + k = n + 1 + (119 - n % 64) % 64 ∧ n + 1 ≤ l ∧ v = .slice A' l c' ∧ wq.ownsRow (K + 2) 5 1 (.slice A' l c') l (octets l (lastF b n)) ∧ SumBase w wq K startF)
  case atStart => exact ⟨n + 1, A6, c6, rfl, Nat.le_refl _, rfl, hown, hbase⟩
  case round =>
    clear hown hbase
    obtain ⟨l, A', c', hl, hl1, rfl, hown, hbase⟩ := hrel
    have hll : l ≤ n + 64 := by omega
    by_cases h56 : l % 64 = 56
    · have q56 : (l : Int) % 64 = 56 := by omega
      go_wp2_with fail
      have hnb : l + 8 = 64 * (n / 64 + 1 + (if 55 < n % 64 then 1 else 0)) := by split <;> omega
      have hlm : l ≤ 140737488355264 := by omega
      clear hl hl1 hll h56 q56
      have hown0 : wr.ownsRow (K + 2) 5 1 (.slice A' (l + 0) c') (l + 0) (octets (l + 0) (tailF b n n (l + 8))) := by
        rw [octets_congr (g := lastF b n) (fun i hi => tailF_low b n l n i (by omega))]
        exact hown
      clear hown
      go_loopg [5, 7] 8 (fun k v va wq => ∃ (j : Nat) (A' : Option Addr) (c' : Nat) (a : Int), j + k = 8 ∧ a = 7 - (j : Int) ∧ va = .int .i64 a ∧ v = .slice A' (l + j) c' ∧ wq.ownsRow (K + 2) 5 1 (.slice A' (l + j) c') (l + j) (octets (l + j) (tailF b n n (l + 8))) ∧ SumBase w wq K startF)
      case atStart => exact ⟨0, A', c', 7, rfl, rfl, rfl, rfl, hown0, hbase⟩
      case round =>
        clear hown0 hbase
        obtain ⟨j, A', c', a, hj, ha, rfl, rfl, hown, hbase⟩ := hrel
        by_cases hlt : j < 8
        · obtain ⟨i, hi⟩ : ∃ i : Nat, j + i = 7 := ⟨7 - j, by omega⟩
          obtain rfl : a = (i : Int) := by omega
          have hel : tailF b n n (l + 8) (l + j) = (n : Int) * 8 / 2 ^ (8 * i) % 256 := by
            rw [tailF, if_pos (by omega), show l + 8 - 1 - (l + j) = i by omega]
            have : IntKind.u64.wrap ((n : Int) * 8) = (n : Int) * 8 := by have := IntKind.wrap_u64 ((n : Int) * 8); omega
            rw [this]
          have HE := Lib.hid hel
          have e0 : (0 : Int) ≤ (i : Int) := by omega
          have e2 : (8 * (i : Int)) % 18446744073709551616 = 8 * (i : Int) := by omega
          have e3 : (8 * (i : Int)).toNat = 8 * i := by omega
          have e4 : min (8 * i) 64 = 8 * i := by omega
          clear ha hel
          have hone : ∀ x, ∀ u ∈ [Value.int .u8 x], u.oneCell' = true := by simp [Value.oneCell']
          have hown' := fun x => hown.alloc (.cells #[.int .u8 x] 5)
          have hrow : ∀ x, Row (wr.alloc (.cells #[.int .u8 x] 5)) (.slice (some ⟨wr.heap.size, 0, none⟩) 1 1) 1 1 [.int .u8 x] := fun x => Row.of_own (own_block (base := wr.heap.size) (heap_alloc_new wr _) (Nat.le_refl _) rfl (by decide))
          have hsz : ∀ x, K + 2 ≤ (wr.alloc (.cells #[.int .u8 x] 5)).heap.size := fun x => by have := hbase.hz; rw [World.size_alloc]; omega
          have hmx : l + j + 1 ≤ maxLen := by unfold maxLen; omega
          have hmy : (l + j + 1) * 1 ≤ 140737488355328 := by omega
          go_wp2_with (at_builtin; refine wpList_append_row rfl _ _ 53 rfl (K + 2) 5 i0 (.int .u8 0) 1 1 Tryz.underlying53 hi0 hz0 hz1 hz2 rfl (by decide) (.slice A' (l + j) c') (l + j) (octets (l + j) (tailF b n n (l + 8))) rfl (hown' _) (.slice (some ⟨wr.heap.size, 0, none⟩) 1 1) 1 [.int .u8 _] rfl (hrow _) (hone _) hmx hmy (hsz _) ?_; intro A7 c7 w7 hown7 hgrow7 _)
          go_roundg (7 - j)
          case rel =>
            have hb7 : Below (K + 2) wr w7 := ((Below.refl _ _).alloc hbase.hz _).grown hgrow7 (hsz _) (fun k hk => ((hown' 0).lt k hk).1)
            refine ⟨j + 1, A7, c7, _, by omega, ?_, rfl, rfl, ?_, hbase.keep hzK.out hb7⟩
            · omega
            · rw [← Nat.add_assoc, octets_succ, HE.out]
              exact hown7
          case measure => omega
        · obtain rfl : j = 8 := by omega
          obtain rfl : a = -1 := by omega
          have hrow := Row.of_own hown
          obtain ⟨_, Am, cm, hv, _, hcell⟩ := hrow
          obtain ⟨rfl, rfl⟩ : A' = Am ∧ c' = cm := by simpa using hv
          obtain ⟨g, o, rfl, hg, hce⟩ := hcell (by omega)
          have hKg : K + 2 ≤ g := (hown.lt g rfl).1
          have hoct : Octets wr g o (l + 8) (tailF b n n (l + 8)) := fun i hi => hce i _ (octets_get hi)
          have HT : Hid (tailF b n n (l + 8) = tailF b n n (l + 8)) := Lib.hid rfl
          clear hv hcell hce hown hj hlt ha
          generalize hnbe : n / 64 + 1 + (if 55 < n % 64 then 1 else 0) = nb at *
          have HNB := Lib.hid hnbe
          obtain ⟨T, hT⟩ : ∃ T, tailF b n n (l + 8) = T := ⟨_, rfl⟩
          rw [hT] at hoct
          have HT2 := Lib.hid hT
          clear hnbe hT HT
          have HLN := Lib.hid hnb
          have hlpos : 0 < l + 8 := by omega
          clear hnb
          go_wp2_with fail
          go_loopg [8] nb (fun k v wq => ∃ (j a : Nat), j + k = nb ∧ a = 64 * j ∧ v = .int .i64 a ∧ Octets wq g o (l + 8) T ∧ SumBase w wq K (mixesF T startF j))
          case atStart => exact ⟨0, 0, by omega, rfl, rfl, hoct, hbase⟩
          case round =>
            clear hoct hbase hg
            obtain ⟨j, a, hj, ha, rfl, hoct, hbase⟩ := hrel
            have hgl : g < wr.heap.size := cell_lt (hoct 0 (by omega))
            have HA := Lib.hid ha
            by_cases hlt : j < nb
            · have hal : a + 64 ≤ l + 8 := by have := HLN.out; omega
              have q1 : (a : Int) < (l : Int) + 8 := by omega
              have HM : Hid (mixF (fun i => T (64 * j + i)) (mixesF T startF j) = mixesF T startF (j + 1)) := Lib.hid rfl
              have hT4 : ∀ i, T (a + i) = (fun i => T (64 * j + i)) i := fun i => by rw [ha]
              have H4 := Lib.hid hT4
              generalize mixesF T startF j = s at *
              clear ha hT4
              rename World => V
              have hW0 := words_zeros V 89 64
              rw [← zero64] at hW0
              have hbv := below_alloc V (.cells #[Value.int .u32 0, Value.int .u32 0, Value.int .u32 0, Value.int .u32 0, Value.int .u32 0, Value.int .u32 0, Value.int .u32 0, Value.int .u32 0, Value.int .u32 0, Value.int .u32 0, Value.int .u32 0, Value.int .u32 0, Value.int .u32 0, Value.int .u32 0, Value.int .u32 0, Value.int .u32 0, Value.int .u32 0, Value.int .u32 0, Value.int .u32 0, Value.int .u32 0, Value.int .u32 0, Value.int .u32 0, Value.int .u32 0, Value.int .u32 0, Value.int .u32 0, Value.int .u32 0, Value.int .u32 0, Value.int .u32 0, Value.int .u32 0, Value.int .u32 0, Value.int .u32 0, Value.int .u32 0, Value.int .u32 0, Value.int .u32 0, Value.int .u32 0, Value.int .u32 0, Value.int .u32 0, Value.int .u32 0, Value.int .u32 0, Value.int .u32 0, Value.int .u32 0, Value.int .u32 0, Value.int .u32 0, Value.int .u32 0, Value.int .u32 0, Value.int .u32 0, Value.int .u32 0, Value.int .u32 0, Value.int .u32 0, Value.int .u32 0, Value.int .u32 0, Value.int .u32 0, Value.int .u32 0, Value.int .u32 0, Value.int .u32 0, Value.int .u32 0, Value.int .u32 0, Value.int .u32 0, Value.int .u32 0, Value.int .u32 0, Value.int .u32 0, Value.int .u32 0, Value.int .u32 0, Value.int .u32 0] 89)
              go_wp2_with fail
              go_loopg [10] 64 (fun k v wq => ∃ (t : Nat) (F : Nat → Int), t + k = 64 ∧ v = .int .i64 t ∧ Words wq V.heap.size 64 F ∧ (∀ i, i < t → F i = schedF (fun i => T (64 * j + i)) i) ∧ Below V.heap.size V wq)
              case atStart => exact ⟨0, _, rfl, rfl, hW0, fun i hi => absurd hi (by omega), hbv⟩
              case round =>
                clear hW0 hbv
                obtain ⟨t, F, ht, rfl, hF, hall, hbw⟩ := hrel
                by_cases ht64 : t < 64
                · by_cases h16 : t < 16
                  · have B : ∀ i, i < 4 → wr.cell? ⟨g, o + (a + 4 * t + i), none⟩ = some (.int .u8 (T (a + (4 * t + i)))) := fun i hi => by
                      have := (hbw.cell (p := ⟨g, o + (a + 4 * t + i), none⟩) hgl).trans (hoct (a + 4 * t + i) (by omega))
                      rw [this, Nat.add_assoc]
                    have b0 := B 0 (by omega)
                    have b1 := B 1 (by omega)
                    have b2 := B 2 (by omega)
                    have b3 := B 3 (by omega)
                    rw [H4.out] at b0 b1 b2 b3
                    simp only [Nat.add_zero] at b0 b1 b2 b3
                    have f0 := hF.1 t ht64
                    have ff := hF.2
                    have z0 : (0 : Int) ≤ (a : Int) + 4 * (t : Int) := by omega
                    have z4 : (a : Int) + 4 * (t : Int) + 3 < (l : Int) + 8 := by omega
                    have hag : g < wr.heap.size := Nat.lt_of_lt_of_le hgl hbw.size
                    clear B
                    go_wp2_with fail
                    go_region
                    go_wp2_with fail
                    go_roundg (63 - t)
                    case rel =>
                      refine ⟨t + 1, _, by omega, by simp, (hF.set ht64 _).drew, fun i hi => ?_, (hbw.setCell (Nat.le_refl _) _).drew⟩
                      by_cases e : i = t
                      · subst e
                        simp only [if_true]
                        rw [schedF, dif_pos h16]
                        rfl
                      · simp only [if_neg e]
                        exact hall i (by omega)
                    case measure => omega
                  · obtain ⟨i, rfl⟩ : ∃ i, t = i + 16 := ⟨t - 16, by omega⟩
                    have f0 := hF.1 i (by omega)
                    have f1 := hF.1 (i + 1) (by omega)
                    have f9 := hF.1 (i + 9) (by omega)
                    have f14 := hF.1 (i + 14) (by omega)
                    have f16 := hF.1 (i + 16) (by omega)
                    have ff := hF.2
                    have e0 : (i : Int) + 16 - 16 = i := by omega
                    have e1 : (i : Int) + 16 - 15 = i + 1 := by omega
                    have e9 : (i : Int) + 16 - 7 = i + 9 := by omega
                    have e14 : (i : Int) + 16 - 2 = i + 14 := by omega
                    have z16 : ((i + 16 : Nat) : Int) = (i : Int) + 16 := by omega
                    have hnl : ¬((i : Int) + 16 < 16) := by omega
                    have hwl : V.heap.size < wr.heap.size := cell_lt f0
                    rw [hall i (by omega)] at f0
                    rw [hall (i + 1) (by omega)] at f1
                    rw [hall (i + 9) (by omega)] at f9
                    rw [hall (i + 14) (by omega)] at f14
                    have hstep := schedF_step (fun i => T (64 * j + i)) i
                    generalize schedF (fun i => T (64 * j + i)) i = y0 at *
                    generalize schedF (fun i => T (64 * j + i)) (i + 1) = y1 at *
                    generalize schedF (fun i => T (64 * j + i)) (i + 9) = y9 at *
                    generalize schedF (fun i => T (64 * j + i)) (i + 14) = y14 at *
                    have HST := Lib.hid hstep
                    clear hstep
                    go_wp2_with fail
                    go_quiet (fail)
                    go_wp2_with fail
                    have hF2 : Words (wr.drewN nq).drew V.heap.size 64 F := (hF.drewN nq).drew
                    have hbw2 : Below V.heap.size V (wr.drewN nq).drew := (below_drewN hbw nq).drew
                    have g0 : (wr.drewN nq).drew.cell? ⟨V.heap.size, i, none⟩ = some (.int .u32 y0) := f0
                    have g9 : (wr.drewN nq).drew.cell? ⟨V.heap.size, i + 9, none⟩ = some (.int .u32 y9) := f9
                    have g16 : (wr.drewN nq).drew.cell? ⟨V.heap.size, i + 16, none⟩ = some (.int .u32 (F (i + 16))) := f16
                    have gf : ∀ o, (wr.drewN nq).drew.frozen? ⟨V.heap.size, o, none⟩ = false := ff
                    have gl : V.heap.size < (wr.drewN nq).drew.heap.size := hwl
                    have w9 : IntKind.i64.wrap ((i : Int) + 9) = (i : Int) + 9 := by have := IntKind.wrap_i64 ((i : Int) + 9); omega
                    have w16 : IntKind.i64.wrap ((i : Int) + 16) = (i : Int) + 16 := by have := IntKind.wrap_i64 ((i : Int) + 16); omega
                    have w0 : IntKind.i64.wrap (i : Int) = (i : Int) := by have := IntKind.wrap_i64 (i : Int); omega
                    have x0 : (0 : Int) ≤ (i : Int) := by omega
                    have x1 : (i : Int) < 64 := by omega
                    have x9 : (0 : Int) ≤ (i : Int) + 9 := by omega
                    have x10 : (i : Int) + 9 < 64 := by omega
                    have x16 : (0 : Int) ≤ (i : Int) + 16 := by omega
                    have x17 : (i : Int) + 16 < 64 := by omega
                    have n9 : ((i : Int) + 9).toNat = i + 9 := by omega
                    have n16 : ((i : Int) + 16).toNat = i + 16 := by omega
                    refine wp_region_still_tail 29 (by kernel_rfl) (by kernel_rfl) ?_
                    simp only [List.take_succ_cons, List.take_zero, List.drop_succ_cons, List.drop_zero]
                    change wpStill _ _ (World.drew (wr.drewN nq)) (fun a' => wpList _ _ _ _ a' (World.drew (wr.drewN nq))) _ _
                    generalize World.drew (wr.drewN nq) = V2 at *
                    repeat still_step
                    still_call (r17 _ _)
                    repeat still_step
                    still_call (r19 _ _)
                    repeat still_step
                    still_call (r7 _ _)
                    repeat still_step
                    still_call (r18 _ _)
                    repeat still_step
                    refine wpStill_nil ?_
                    go_wp2_with fail
                    go_roundg (63 - (i + 16))
                    case rel =>
                      refine ⟨i + 16 + 1, _, by omega, by simp, hF2.set (by omega) _, fun k hk => ?_, hbw2.setCell (Nat.le_refl _) _⟩
                      by_cases e : k = i + 16
                      · subst e
                        simp only [if_true]
                        rw [HST.out]
                        first
                          | omega
                          | exact congrArg (· % 4294967296) (by omega)
                          | (simp only [rotF]; omega)
                      · simp only [if_neg e]
                        exact hall k (by omega)
                    case measure => omega
                · obtain rfl : t = 64 := by omega
                  clear ht ht64
                  have hKV : K + 1 < V.heap.size := by have := hbase.hz; omega
                  have S : ∀ i, i < 8 → wr.cell? ⟨K + 1, i, none⟩ = some (.int .u32 (s i)) := fun i hi => (hbw.cell (p := ⟨K + 1, i, none⟩) hKV).trans (hbase.hs.1 i hi)
                  have s0 := S 0 (by omega)
                  have s1 := S 1 (by omega)
                  have s2 := S 2 (by omega)
                  have s3 := S 3 (by omega)
                  have s4 := S 4 (by omega)
                  have s5 := S 5 (by omega)
                  have s6 := S 6 (by omega)
                  have s7 := S 7 (by omega)
                  have hwl : V.heap.size < wr.heap.size := cell_lt (hF.1 0 (by omega))
                  rename World => U
                  have hX0 := words_at (words_eight U s 83)
                  have hbu0 := below_alloc U (.cells #[.int .u32 (s 0), .int .u32 (s 1), .int .u32 (s 2), .int .u32 (s 3), .int .u32 (s 4), .int .u32 (s 5), .int .u32 (s 6), .int .u32 (s 7)] 83)
                  go_wp2_with fail
                  clear s0 s1 s2 s3 s4 s5 s6 s7 S
                  go_loopg [15] 64 (fun k v wq => ∃ (t : Nat) (x : Eight), t + k = 64 ∧ v = .int .i64 t ∧ x = roundsF (fun i => T (64 * j + i)) s t ∧ Words wq U.heap.size 8 x.at ∧ Below U.heap.size U wq)
                  case atStart => exact ⟨0, eightOf s, rfl, rfl, rfl, hX0, hbu0⟩
                  case round =>
                    clear hX0 hbu0
                    obtain ⟨t, x, ht, rfl, hx, hX, hbu⟩ := hrel
                    have hbx := hbw.trans (hbu.mono hbw.size)
                    by_cases ht64 : t < 64
                    · have k0 : wr.cell? ⟨K, t, none⟩ = some (.int .u32 (kF t)) := (hbx.cell (p := ⟨K, t, none⟩) (show K < V.heap.size by omega)).trans (hbase.hk.1 t ht64)
                      have w0 : wr.cell? ⟨V.heap.size, t, none⟩ = some (.int .u32 (schedF (fun i => T (64 * j + i)) t)) := by rw [← hall t ht64]; exact (hbu.cell (p := ⟨V.heap.size, t, none⟩) hwl).trans (hF.1 t ht64)
                      obtain ⟨xa, xc, xd, xe, xf, xg, xh, xi⟩ := x
                      have hul : U.heap.size < wr.heap.size := cell_lt (hX.1 0 (by omega))
                      have hvl : V.heap.size < wr.heap.size := by omega
                      have hkl : K < wr.heap.size := by omega
                      have HX := Lib.hid hx
                      have HR : Hid (roundsF (fun i => T (64 * j + i)) s (t + 1) = stepF (roundsF (fun i => T (64 * j + i)) s t) (kF t) (schedF (fun i => T (64 * j + i)) t)) := Lib.hid rfl
                      obtain ⟨u, hu⟩ : ∃ u, schedF (fun i => T (64 * j + i)) t = u := ⟨_, rfl⟩
                      obtain ⟨kk, hkk⟩ : ∃ u, kF t = u := ⟨_, rfl⟩
                      rw [hu] at w0 HR
                      rw [hkk] at k0 HR
                      rw [← hx] at HR
                      clear hx hu hkk
                      have RAwr : RoundAt wr U.heap.size V.heap.size K t ⟨xa, xc, xd, xe, xf, xg, xh, xi⟩ kk u := ⟨hX, k0, w0, hul, hvl, hkl⟩
                      have hbu1 := hbu
                      have v0 : wr.cell? ⟨U.heap.size, 0, none⟩ = some (.int .u32 xa) := RAwr.hX.1 0 (by omega)
                      have v4 : wr.cell? ⟨U.heap.size, 4, none⟩ = some (.int .u32 xf) := RAwr.hX.1 4 (by omega)
                      go_wp2_with fail
                      go_quiet (fail)
                      clear v0 v4 k0 w0
                      have hbuV1 := below_drewN hbu1 nq
                      have RAV1 := RAwr.drewN nq
                      generalize wr.drewN nq = V1 at *
                      have k0 := RAV1.k0
                      have w0 := RAV1.w0
                      have hul := RAV1.lu
                      have hvl := RAV1.lv
                      have hkl := RAV1.lk
                      have v5 : V1.cell? ⟨U.heap.size, 5, none⟩ = some (.int .u32 xg) := RAV1.hX.1 5 (by omega)
                      have v6 : V1.cell? ⟨U.heap.size, 6, none⟩ = some (.int .u32 xh) := RAV1.hX.1 6 (by omega)
                      have v7 : V1.cell? ⟨U.heap.size, 7, none⟩ = some (.int .u32 xi) := RAV1.hX.1 7 (by omega)
                      go_wp2_with fail
                      go_quiet (first | (go_at_call 50; exact Calls.quiet_of_same (turnZ _ _ _ (by decide) (by decide))))
                      clear v5 v6 v7 k0 w0
                      have hbuV2 := below_drewN hbuV1 nq
                      have RAV2 := RAV1.drewN nq
                      generalize V1.drewN nq = V2 at *
                      have k0 := RAV2.k0
                      have w0 := RAV2.w0
                      have hul := RAV2.lu
                      have hvl := RAV2.lv
                      have hkl := RAV2.lk
                      have v1 : V2.cell? ⟨U.heap.size, 1, none⟩ = some (.int .u32 xc) := RAV2.hX.1 1 (by omega)
                      have v2 : V2.cell? ⟨U.heap.size, 2, none⟩ = some (.int .u32 xd) := RAV2.hX.1 2 (by omega)
                      go_wp2_with fail
                      go_quiet (first | (go_at_call 50; exact Calls.quiet_of_same (turnZ _ _ _ (by decide) (by decide))))
                      clear v1 v2 k0 w0
                      have hbuV3 := below_drewN hbuV2 nq
                      have RAV3 := RAV2.drewN nq
                      generalize V2.drewN nq = V3 at *
                      have k0 := RAV3.k0
                      have w0 := RAV3.w0
                      have hul := RAV3.lu
                      have hvl := RAV3.lv
                      have hkl := RAV3.lk
                      have v0 : V3.cell? ⟨U.heap.size, 0, none⟩ = some (.int .u32 xa) := RAV3.hX.1 0 (by omega)
                      have v1 : V3.cell? ⟨U.heap.size, 1, none⟩ = some (.int .u32 xc) := RAV3.hX.1 1 (by omega)
                      have v2 : V3.cell? ⟨U.heap.size, 2, none⟩ = some (.int .u32 xd) := RAV3.hX.1 2 (by omega)
                      have v3 : V3.cell? ⟨U.heap.size, 3, none⟩ = some (.int .u32 xe) := RAV3.hX.1 3 (by omega)
                      have v4 : V3.cell? ⟨U.heap.size, 4, none⟩ = some (.int .u32 xf) := RAV3.hX.1 4 (by omega)
                      have v5 : V3.cell? ⟨U.heap.size, 5, none⟩ = some (.int .u32 xg) := RAV3.hX.1 5 (by omega)
                      have v6 : V3.cell? ⟨U.heap.size, 6, none⟩ = some (.int .u32 xh) := RAV3.hX.1 6 (by omega)
                      have hone : stepF ⟨xa, xc, xd, xe, xf, xg, xh, xi⟩ kk u = ⟨((((xi + bits .xor .u32 (bits .xor .u32 (rotF xf 26) (rotF xf 21)) (rotF xf 7) + bits .or .u32 (bits .and .u32 xf xg) (bits .and .u32 (bits .xor .u32 4294967295 xf) xh) + kk) % 4294967296 + u) % 4294967296) + (bits .xor .u32 (bits .xor .u32 (rotF xa 30) (rotF xa 19)) (rotF xa 10) + bits .or .u32 (bits .or .u32 (bits .and .u32 xa xc) (bits .and .u32 xa xd)) (bits .and .u32 xc xd)) % 4294967296) % 4294967296, xa, xc, xd, (xe + (((xi + bits .xor .u32 (bits .xor .u32 (rotF xf 26) (rotF xf 21)) (rotF xf 7) + bits .or .u32 (bits .and .u32 xf xg) (bits .and .u32 (bits .xor .u32 4294967295 xf) xh) + kk) % 4294967296 + u) % 4294967296)) % 4294967296, xf, xg, xh⟩ := by
                        rw [ch_is, maj_is]
                        simp only [stepF, oneF, twoF, Eight.mk.injEq, true_and, and_true]
                        constructor <;> omega
                      generalize (((xi + bits .xor .u32 (bits .xor .u32 (rotF xf 26) (rotF xf 21)) (rotF xf 7) + bits .or .u32 (bits .and .u32 xf xg) (bits .and .u32 (bits .xor .u32 4294967295 xf) xh) + kk) % 4294967296 + u) % 4294967296) = one at *
                      generalize (bits .xor .u32 (bits .xor .u32 (rotF xa 30) (rotF xa 19)) (rotF xa 10) + bits .or .u32 (bits .or .u32 (bits .and .u32 xa xc) (bits .and .u32 xa xd)) (bits .and .u32 xc xd)) % 4294967296 = two at *
                      have HONE := Lib.hid hone
                      clear hone
                      go_wp2_with (refine wpList_store_words rfl _ _ 83 rfl U.heap.size 8 (Eight.at ⟨xa, xc, xd, xe, xf, xg, xh, xi⟩) (Eight.at ⟨(one + two) % 4294967296, xa, xc, xd, (xe + one) % 4294967296, xf, xg, xh⟩) (by kernel_rfl) rfl rfl RAV3.hX ?_; intro w9 hX9 hG9)
                      go_roundg (63 - t)
                      case rel => exact ⟨t + 1, _, by omega, by simp, by rw [HR.out, HONE.out], hX9, hbuV3.grown hG9 hbuV3.size (fun k hk => by cases hk; exact Nat.le_refl _)⟩
                      case measure => omega
                    · obtain rfl : t = 64 := by omega
                      have hKr : K + 1 < wr.heap.size := by have := hbx.size; omega
                      have hHs : Words wr (K + 1) 8 s := ⟨fun i hi => (hbx.cell (p := ⟨K + 1, i, none⟩) hKV).trans (hbase.hs.1 i hi), fun o => (hbx.frozen (p := ⟨K + 1, o, none⟩) hKV).trans (hbase.hs.2 o)⟩
                      have hul : U.heap.size < wr.heap.size := cell_lt (hX.1 0 (by omega))
                      have hmx : ∀ i, (s i + x.at i) % 4294967296 = mixF (fun i => T (64 * j + i)) s i := fun i => by rw [mixF, ← hx]
                      have HMX := Lib.hid hmx
                      clear hx hmx ht ht64
                      rename World => R5
                      go_wp2_with fail
                      go_loopg [20] 8 (fun k v wq => ∃ (i : Nat) (f : Nat → Int), i + k = 8 ∧ v = .int .i64 i ∧ Words wq (K + 1) 8 f ∧ (∀ y, f y = if y < i then mixF (fun i => T (64 * j + i)) s y else s y) ∧ R5.grownBy wq (some (K + 1)))
                      case atStart => exact ⟨0, s, rfl, rfl, hHs, fun y => by rw [if_neg (by omega)], ⟨rfl, rfl, rfl, Nat.le_refl _, fun _ _ _ => rfl⟩⟩
                      case round =>
                        clear hHs
                        obtain ⟨i, f, hi, rfl, hH, hf, hG⟩ := hrel
                        have hXg := hX.grown hul hG (fun h => by have := Option.some.inj h; omega)
                        by_cases h8 : i < 8
                        · have h0 := hH.1 i h8
                          rw [hf i, if_neg (by omega)] at h0
                          have hff := hH.2
                          have v0 := hXg.1 i h8
                          have l1 : U.heap.size < wr.heap.size := cell_lt v0
                          have l2 : K + 1 < wr.heap.size := cell_lt h0
                          have hm := HMX.out i
                          generalize x.at i = y at *
                          have HFF := Lib.hid hf
                          clear hf
                          have HM8 := Lib.hid hm
                          clear hm
                          go_wp2_with fail
                          go_region
                          go_wp2_with fail
                          go_roundg (7 - i)
                          case rel =>
                            refine ⟨i + 1, _, by omega, by simp, (hH.set h8 _).drew, fun z => ?_, grown_drew (grown_set hG _ _)⟩
                            by_cases e : z = i
                            · subst e
                              simp only [if_true]
                              rw [if_pos (by omega)]
                              exact HM8.out
                            · simp only [if_neg e]
                              rw [HFF.out z]
                              by_cases h : z < i
                              · rw [if_pos h, if_pos (by omega)]
                              · rw [if_neg h, if_neg (by omega)]
                          case measure => omega
                        · obtain rfl : i = 8 := by omega
                          have hHn : Words wr (K + 1) 8 (mixesF T startF (j + 1)) := by
                            rw [← HM.out]
                            exact ⟨fun y hy => by rw [hH.1 y hy, hf y, if_pos hy], hH.2⟩
                          have hq : ∀ {p : Addr}, p.block < V.heap.size → p.block ≠ K + 1 → wr.cell? p = V.cell? p ∧ wr.frozen? p = V.frozen? p := fun {p} hp hne =>
                            have hp2 : p.block < R5.heap.size := by have := hbx.size; omega
                            ⟨(World.cell?_of_block (hG.block p.block hp2 (fun h => hne (Option.some.inj h)))).trans (hbx.cell hp), (World.frozen?_of_block (hG.block p.block hp2 (fun h => hne (Option.some.inj h)))).trans (hbx.frozen hp)⟩
                          have hwK : w.heap.size < K := hzK.out
                          have hbase' : SumBase w wr K (mixesF T startF (j + 1)) := ⟨
                            ⟨fun y hy => (hq (p := ⟨K, y, none⟩) (show K < V.heap.size by omega) (show K ≠ K + 1 by omega)).1.trans (hbase.hk.1 y hy), fun o => (hq (p := ⟨K, o, none⟩) (show K < V.heap.size by omega) (show K ≠ K + 1 by omega)).2.trans (hbase.hk.2 o)⟩,
                            hHn,
                            ⟨fun y hy => (hq (p := ⟨w.heap.size, y, none⟩) (show w.heap.size < V.heap.size by omega) (show w.heap.size ≠ K + 1 by omega)).1.trans (hbase.hr.1 y hy), fun o => (hq (p := ⟨w.heap.size, o, none⟩) (show w.heap.size < V.heap.size by omega) (show w.heap.size ≠ K + 1 by omega)).2.trans (hbase.hr.2 o)⟩,
                            (hbase.hb.trans (hbx.mono (by omega))).grown hG (Nat.le_trans (Nat.le_trans (show w.heap.size ≤ V.heap.size by omega) hbx.size) (Nat.le_refl _)) (fun k hk => by cases hk; omega),
                            Nat.le_trans (Nat.le_trans hbase.hz hbx.size) hG.size⟩
                          have hoct' : Octets wr g o (l + 8) T := fun y hy => (hq (p := ⟨g, o + y, none⟩) hgl (show g ≠ K + 1 by omega)).1.trans (hoct y hy)
                          have haj := HA.out
                          have HB5 := Lib.hid (And.intro hbase' hoct')
                          clear hbase hbase' hoct hoct' hq hHn hH hf hG hXg hX hbu hbx hbw hF hall haj
                          go_wp2_with fail
                          go_roundg (nb - (j + 1))
                          case rel => exact ⟨j + 1, a + 64, by omega, by have := HA.out; omega, by simp, HB5.out.2, HB5.out.1⟩
                          case measure => omega
            · obtain rfl : j = nb := by omega
              have hq2 : ¬((a : Int) < (l : Int) + 8) := by have := HLN.out; omega
              have HX : Hid (mixesF T startF j = mixesF T startF j) := Lib.hid rfl
              clear HX
              obtain ⟨x, hx⟩ : ∃ x, mixesF T startF j = x := ⟨_, rfl⟩
              rw [hx] at hbase
              have HX := Lib.hid hx
              have hKl : K + 1 < wr.heap.size := by have := hbase.hz; omega
              clear hx ha hoct hgl hj hlt
              rename World => Y
              have hO0 := marks_zeros Y 51 32
              have hbO := below_alloc Y (.cells (Array.replicate 32 (.int .u8 0)) 51)
              go_wp2_with fail
              go_loopg [22] 32 (fun k v wq => ∃ (i : Nat) (h : Nat → Int), i + k = 32 ∧ v = .int .i64 i ∧ Marks wq Y.heap.size 32 h ∧ (∀ y, y < i → h y = outF x y) ∧ Below Y.heap.size Y wq)
              case atStart => exact ⟨0, _, rfl, rfl, hO0, fun y hy => absurd hy (by omega), hbO⟩
              case round =>
                clear hO0 hbO
                obtain ⟨i, h, hi, rfl, hH, hh, hb9⟩ := hrel
                by_cases h32 : i < 32
                · obtain ⟨q, r, rfl, hr4⟩ : ∃ q r, i = 4 * q + r ∧ r < 4 := ⟨i / 4, i % 4, by omega, by omega⟩
                  have hout : x q / 2 ^ (24 - 8 * r) % 256 = outF x (4 * q + r) := by rw [outF, show (4 * q + r) / 4 = q by omega, show (4 * q + r) % 4 = r by omega]
                  have HO := Lib.hid hout
                  have hc : wr.cell? ⟨K + 1, q, none⟩ = some (.int .u32 (x q)) := (hb9.cell (p := ⟨K + 1, q, none⟩) hKl).trans (hbase.hs.1 q (by omega))
                  have m0 := hH.1 (4 * q + r) h32
                  have mf := hH.2
                  have l1 : Y.heap.size < wr.heap.size := cell_lt m0
                  have l2 : K + 1 < wr.heap.size := cell_lt hc
                  have d1 : ((4 * q + r : Nat) : Int) / 4 = (q : Int) := by omega
                  have d2 : ((4 * q + r : Nat) : Int) % 4 = (r : Int) := by omega
                  have d3 : (4 * (q : Int) + (r : Int)) / 4 = (q : Int) := by omega
                  have d4 : (4 * (q : Int) + (r : Int)) % 4 = (r : Int) := by omega
                  have d5 : (4 * (q : Int) + (r : Int)).toNat = 4 * q + r := by omega
                  have d6 : (q : Int) < 8 := by omega
                  have d7 : (4 * (q : Int) + (r : Int)) < 32 := by omega
                  have w4 : IntKind.i64.wrap (q : Int) = (q : Int) := by have := IntKind.wrap_i64 (q : Int); omega
                  have e1 : IntKind.u64.wrap (24 - 8 * (r : Int)) = ((24 - 8 * r : Nat) : Int) := by
                    have := IntKind.wrap_u64 (24 - 8 * (r : Int))
                    omega
                  have e2 : min (24 - 8 * r) 32 = 24 - 8 * r := by omega
                  have e3 : (0 : Int) ≤ ((24 - 8 * r : Nat) : Int) := by omega
                  clear hout
                  go_wp2_with fail
                  go_roundg (31 - (4 * q + r))
                  case rel =>
                    refine ⟨4 * q + r + 1, _, by omega, by simp, hH.set h32 _, fun y hy => ?_, hb9.setCell (Nat.le_refl _) _⟩
                    by_cases e : y = 4 * q + r
                    · subst e
                      simp only [if_true]
                      exact HO.out
                    · simp only [if_neg e]
                      exact hh y (by omega)
                  case measure => omega
                · obtain rfl : i = 32 := by omega
                  have hMO : Marks wr Y.heap.size 32 (outF x) := ⟨fun y hy => by rw [hH.1 y hy, hh y hy], hH.2⟩
                  have hRY : w.heap.size < Y.heap.size := by have := hzK.out; omega
                  have hMR := hbase.hr.keep hRY hb9
                  have hB9 := hbase.hb.trans (hb9.mono (Nat.le_of_lt hRY))
                  have hl1 : Y.heap.size < wr.heap.size := cell_lt (hMO.1 0 (by omega))
                  have hl2 : w.heap.size < wr.heap.size := by omega
                  clear hH hh hbase
                  go_wp2_with (first
                    | (refine wpList_load_marks rfl _ 51 5 rfl Y.heap.size 32 (outF x) Tryz.underlying51 (by kernel_rfl) rfl hMO ?_)
                    | (refine wpList_store_marks rfl _ _ 51 rfl w.heap.size 32 (fun _ => 0) (outF x) (by kernel_rfl) rfl rfl hMR ?_; intro w9 hM9 hG9))
                  have hres := run_loadVar_marks (P := Tryz.prog) w9 51 5 w.heap.size 32 (outF x) Tryz.underlying51 (by kernel_rfl) hM9
                  refine bodyPost_ret (v := bytesV 32 (outF x)) (by simp [results, Tryz.results28, Act.put, asAddr, hres]) rfl ?_
                  refine ⟨?_, hB9.grown hG9 hB9.size (fun k hk => by cases hk; omega)⟩
                  rw [← HX.out, HT2.out.symm, sum_plain b n (l + 8) j HLN.out HNB.out.symm]
    · have q56 : ¬((l : Int) % 64 = 56) := by omega
      have hown' := hown.alloc (.cells #[.int .u8 0] 5)
      have hrow : Row (wr.alloc (.cells #[.int .u8 0] 5)) (.slice (some ⟨wr.heap.size, 0, none⟩) 1 1) 1 1 [.int .u8 0] := Row.of_own (own_block (base := wr.heap.size) (heap_alloc_new wr _) (Nat.le_refl _) rfl (by decide))
      have hsz : K + 2 ≤ (wr.alloc (.cells #[.int .u8 0] 5)).heap.size := by have := hbase.hz; rw [World.size_alloc]; omega
      have hmx : l + 1 ≤ maxLen := by unfold maxLen; omega
      have hmy : (l + 1) * 1 ≤ 140737488355328 := by omega
      have hone : ∀ u ∈ [Value.int .u8 0], u.oneCell' = true := by simp [Value.oneCell']
      go_wp2_with (at_builtin; refine wpList_append_row rfl _ _ 53 rfl (K + 2) 5 i0 (.int .u8 0) 1 1 Tryz.underlying53 hi0 hz0 hz1 hz2 rfl (by decide) (.slice A' l c') l (octets l (lastF b n)) rfl hown' (.slice (some ⟨wr.heap.size, 0, none⟩) 1 1) 1 [.int .u8 0] rfl hrow hone hmx hmy hsz ?_; intro A7 c7 w7 hown7 hgrow7 _)
      go_roundg (n + 1 + (119 - n % 64) % 64 - (l + 1))
      case rel =>
        have hb7 : Below (K + 2) wr w7 := ((Below.refl _ _).alloc hbase.hz _).grown hgrow7 hsz (fun k hk => (hown'.lt k hk).1)
        refine ⟨l + 1, A7, c7, by omega, by omega, rfl, ?_, hbase.keep hzK.out hb7⟩
        rw [octets_succ, show lastF b n l = 0 by rw [lastF, if_neg (by omega), if_neg (by omega)]]
        exact hown7
      case measure => omega
end Go.Proofs.YtbopkepjbifhhaaGreatDoor

/- One block of SHA-256, taken in. -/
import Derived.Test.YtbopkepjbifhhaaGreatDoorRot
import Derived.BigRegion
import Derived.BigQuiet
namespace Go.Proofs.YtbopkepjbifhhaaGreatDoor
open Go.RowKit

/-- A row of 32-bit words in a block of its own. -/
def Words (w : World) (g n : Nat) (f : Nat → Int) : Prop := (∀ i, i < n → w.cell? ⟨g, i, none⟩ = some (.int .u32 (f i))) ∧ ∀ o, w.frozen? ⟨g, o, none⟩ = false
/-- Bytes that are read. -/
def Octets (w : World) (g o n : Nat) (b : Nat → Int) : Prop := ∀ i, i < n → w.cell? ⟨g, o + i, none⟩ = some (.int .u8 (b i))

theorem Words.set {w : World} {g n : Nat} {f : Nat → Int} (h : Words w g n f) {i : Nat} (hi : i < n) (x : Int) : Words (w.setCell ⟨g, i, none⟩ (.int .u32 x)) g n (fun k => if k = i then x else f k) := by
  refine ⟨fun k hk => ?_, fun o => (World.frozen?_setCell _ _ _ _).trans (h.2 o)⟩
  by_cases e : k = i
  · subst e
    simp only [if_true]
    exact World.cell?_setCell_same _ _ _ (h.1 k hk)
  · refine ((World.cell?_setCell_other _ _ _ _ (fun h => e (by simpa using h.symm))).trans (h.1 k hk)).trans ?_
    rw [show (fun k => if k = i then x else f k) k = f k from if_neg e]
theorem Words.drew {w : World} {g n : Nat} {f : Nat → Int} (h : Words w g n f) : Words w.drew g n f := ⟨fun k hk => h.1 k hk, fun o => h.2 o⟩
theorem Words.drewN {w : World} {g n : Nat} {f : Nat → Int} (h : Words w g n f) (k : Nat) : Words (w.drewN k) g n f := by
  induction k with
  | zero => exact h
  | succ k ih => exact ih.drew
theorem below_drewN {B : Nat} {w w' : World} (h : Below B w w') (k : Nat) : Below B w (w'.drewN k) := by
  induction k with
  | zero => exact h
  | succ k ih => exact ih.drew
theorem Words.keep {w w' : World} {g n : Nat} {f : Nat → Int} (h : Words w g n f) (hg : g < w.heap.size) (hb : Below w.heap.size w w') : Words w' g n f :=
  ⟨fun k hk => (hb.cell (p := ⟨g, k, none⟩) hg).trans (h.1 k hk), fun o => (hb.frozen (p := ⟨g, o, none⟩) hg).trans (h.2 o)⟩
theorem words_zeros (w : World) (t : TypeId) (n : Nat) : Words (w.alloc (.cells (Array.replicate n (.int .u32 0)) t)) w.heap.size n (fun _ => 0) := by
  refine ⟨fun i hi => (World.cell?_alloc_at _ _ _ _ rfl).trans ?_, fun o => World.frozen?_alloc_new _ _ _ o⟩
  rw [Array.getElem?_replicate, if_pos hi]

/-- The word that four bytes are. -/
def wordF (b : Nat → Int) (t : Nat) : Int := bits .or .u32 (bits .or .u32 (bits .or .u32 (b (4 * t) % 4294967296 * 16777216 % 4294967296) (b (4 * t + 1) % 4294967296 * 65536 % 4294967296)) (b (4 * t + 2) % 4294967296 * 256 % 4294967296)) (b (4 * t + 3) % 4294967296)
def lowF (x : Int) : Int := bits .xor .u32 (bits .xor .u32 (rotF x 25) (rotF x 14)) (x / 8)
def highF (x : Int) : Int := bits .xor .u32 (bits .xor .u32 (rotF x 15) (rotF x 13)) (x / 1024)
/-- The words of the rounds. -/
def schedF (b : Nat → Int) (t : Nat) : Int :=
  if h : t < 16 then wordF b t else (schedF b (t - 16) + lowF (schedF b (t - 15)) + schedF b (t - 7) + highF (schedF b (t - 2))) % 4294967296
termination_by t
theorem schedF_step (b : Nat → Int) (i : Nat) : schedF b (i + 16) = (schedF b i + bits .xor .u32 (bits .xor .u32 (rotF (schedF b (i + 1)) 25) (rotF (schedF b (i + 1)) 14)) (schedF b (i + 1) / 8) + schedF b (i + 9) + bits .xor .u32 (bits .xor .u32 (rotF (schedF b (i + 14)) 15) (rotF (schedF b (i + 14)) 13)) (schedF b (i + 14) / 1024)) % 4294967296 := by
  rw [schedF, dif_neg (by omega)]
  rfl

/-- Eight words under way. -/
structure Eight where
  (a c d e f g h i : Int)
def eightOf (s : Nat → Int) : Eight := ⟨s 0, s 1, s 2, s 3, s 4, s 5, s 6, s 7⟩
/-- The rounds' own words. -/
def kTab : List Int := [1116352408, 1899447441, 3049323471, 3921009573, 961987163, 1508970993, 2453635748, 2870763221, 3624381080, 310598401, 607225278, 1426881987, 1925078388, 2162078206, 2614888103, 3248222580, 3835390401, 4022224774, 264347078, 604807628, 770255983, 1249150122, 1555081692, 1996064986, 2554220882, 2821834349, 2952996808, 3210313671, 3336571891, 3584528711, 113926993, 338241895, 666307205, 773529912, 1294757372, 1396182291, 1695183700, 1986661051, 2177026350, 2456956037, 2730485921, 2820302411, 3259730800, 3345764771, 3516065817, 3600352804, 4094571909, 275423344, 430227734, 506948616, 659060556, 883997877, 958139571, 1322822218, 1537002063, 1747873779, 1955562222, 2024104815, 2227730452, 2361852424, 2428436474, 2756734187, 3204031479, 3329325298]
def kF (t : Nat) : Int := kTab.getD t 0
def oneF (x : Eight) (k w : Int) : Int := x.i + bits .xor .u32 (bits .xor .u32 (rotF x.f 26) (rotF x.f 21)) (rotF x.f 7) + bits .xor .u32 (bits .and .u32 x.f x.g) (bits .and .u32 (bits .xor .u32 IntKind.u32.max x.f) x.h) + k + w
def twoF (x : Eight) : Int := bits .xor .u32 (bits .xor .u32 (rotF x.a 30) (rotF x.a 19)) (rotF x.a 10) + bits .xor .u32 (bits .xor .u32 (bits .and .u32 x.a x.c) (bits .and .u32 x.a x.d)) (bits .and .u32 x.c x.d)
def stepF (x : Eight) (k w : Int) : Eight := ⟨(oneF x k w + twoF x) % 4294967296, x.a, x.c, x.d, (x.e + oneF x k w) % 4294967296, x.f, x.g, x.h⟩
def roundsF (b : Nat → Int) (s : Nat → Int) : Nat → Eight
  | 0 => eightOf s
  | t + 1 => stepF (roundsF b s t) (kF t) (schedF b t)
def Eight.at (x : Eight) : Nat → Int
  | 0 => x.a | 1 => x.c | 2 => x.d | 3 => x.e | 4 => x.f | 5 => x.g | 6 => x.h | _ => x.i
/-- The state behind a block. -/
def mixF (b : Nat → Int) (s : Nat → Int) (i : Nat) : Int := (s i + (roundsF b s 64).at i) % 4294967296

theorem grown_set {w w' : World} {g : Nat} (h : w.grownBy w' (some g)) (i : Nat) (u : Value) : w.grownBy (w'.setCell ⟨g, i, none⟩ u) (some g) :=
  ⟨h.os, h.tape, h.output, by simp only [World.setCell, Array.size_modify]; exact h.size, fun k hk hne => (Below.heap_setCell w' ⟨g, i, none⟩ u k (fun e => hne (by rw [e]))).trans (h.block k hk hne)⟩
theorem grown_drewN {w w' : World} {r : Option Nat} (h : w.grownBy w' r) (n : Nat) : w.grownBy (w'.drewN n) r := ⟨h.os, h.tape, h.output, h.size, fun k hk hne => h.block k hk hne⟩
theorem grown_drew {w w' : World} {r : Option Nat} (h : w.grownBy w' r) : w.grownBy w'.drew r := ⟨h.os, h.tape, h.output, h.size, fun k hk hne => h.block k hk hne⟩
theorem grown_of_below {w w' : World} (h : Below w.heap.size w w') (r : Option Nat) : w.grownBy w' r := ⟨h.os, h.tape, h.output, h.size, fun k hk _ => h.block k hk⟩

theorem index8 (xa xc xd xe xf xg xh xi : Int) (j : Nat) (hj : j < 8) (w : World) : (Instr.index 83 (.agg #[.int .u32 xa, .int .u32 xc, .int .u32 xd, .int .u32 xe, .int .u32 xf, .int .u32 xg, .int .u32 xh, .int .u32 xi]) (.int .i64 (j : Int))).run Tryz.prog w = .ok (.int .u32 (Eight.at ⟨xa, xc, xd, xe, xf, xg, xh, xi⟩ j)) w := by
  have h : j = 0 ∨ j = 1 ∨ j = 2 ∨ j = 3 ∨ j = 4 ∨ j = 5 ∨ j = 6 ∨ j = 7 := by omega
  rcases h with rfl | rfl | rfl | rfl | rfl | rfl | rfl | rfl <;> (show _ = _; kernel_rfl)

def MixPost (g : Nat) (s : Nat → Int) (w : World) (e : Ending) (w' : World) : Prop := e = .returned (.tuple #[]) ∧ Words w' g 8 s ∧ w.grownBy w' (some g)

set_option maxRecDepth 100000 in
set_option maxHeartbeats 2000000 in
theorem mix_any (g : Nat) (s : Nat → Int) (bg bo len cap : Nat) (b : Nat → Int) (w : World) (hs : Words w g 8 s) (hgl : g < w.heap.size) (hb : Octets w bg bo 64 b) (hlen : 64 ≤ len) (hm : len ≤ 9223372036854775807) (hbl : bg < w.heap.size)
    (hK : ∀ i, i < 64 → w.cell? ⟨1, i, none⟩ = some (.int .u32 (kF i))) (hKl : 1 < w.heap.size) :
    Calls Tryz.prog 47 #[.pointer (some ⟨g, 0, none⟩), .slice (some ⟨bg, bo, none⟩) len cap] w (MixPost g (mixF b s) w) := by
  go_enter Tryz.func47, Tryz.ntmps47
  generalize hN : w.heap.size = N at *
  have hT : 89 = 89 := rfl
  clear hT
  have r25 : ∀ x w, Calls Tryz.prog 65 #[.int .u32 x, .int .i64 (-7)] w _ := fun x w => rot_any x (-7) 25 w (by decide) (by decide)
  have r14 : ∀ x w, Calls Tryz.prog 65 #[.int .u32 x, .int .i64 (-18)] w _ := fun x w => rot_any x (-18) 14 w (by decide) (by decide)
  have r15 : ∀ x w, Calls Tryz.prog 65 #[.int .u32 x, .int .i64 (-17)] w _ := fun x w => rot_any x (-17) 15 w (by decide) (by decide)
  have r13 : ∀ x w, Calls Tryz.prog 65 #[.int .u32 x, .int .i64 (-19)] w _ := fun x w => rot_any x (-19) 13 w (by decide) (by decide)
  go_wp2
  have hNW : ∀ o t, (w.alloc (.cells o t)).heap.size = N + 1 := fun o t => by simp [hN]
  go_loopg [24] 16 (fun k v wr => ∃ (j : Nat) (F : Nat → Int), j + k = 16 ∧ v = .int .i64 j ∧ Words wr N 64 F ∧ (∀ i, i < j → F i = wordF b i) ∧ Below N w wr)
  case atStart =>
    refine ⟨0, fun _ => 0, by omega, rfl, ⟨fun i hi => ?_, fun o => ?_⟩, fun i hi => absurd hi (by omega), ?_⟩
    · exact hN ▸ (words_zeros w _ 64).1 i hi
    · exact hN ▸ (words_zeros w _ 64).2 o
    · exact hN ▸ below_alloc w _
  case round =>
    obtain ⟨j, F, hj, rfl, hF, hall, hbw⟩ := hrel
    by_cases hlt : j < 16
    · have b0 : wr.cell? ⟨bg, bo + 4 * j, none⟩ = some (.int .u8 (b (4 * j))) := (hbw.cell (p := ⟨bg, bo + 4 * j, none⟩) hbl).trans (hb _ (by omega))
      have b1 : wr.cell? ⟨bg, bo + (4 * j + 1), none⟩ = some (.int .u8 (b (4 * j + 1))) := (hbw.cell (p := ⟨bg, bo + (4 * j + 1), none⟩) hbl).trans (hb _ (by omega))
      have b2 : wr.cell? ⟨bg, bo + (4 * j + 2), none⟩ = some (.int .u8 (b (4 * j + 2))) := (hbw.cell (p := ⟨bg, bo + (4 * j + 2), none⟩) hbl).trans (hb _ (by omega))
      have b3 : wr.cell? ⟨bg, bo + (4 * j + 3), none⟩ = some (.int .u8 (b (4 * j + 3))) := (hbw.cell (p := ⟨bg, bo + (4 * j + 3), none⟩) hbl).trans (hb _ (by omega))
      have f0 := hF.1 j (by omega)
      have ff := hF.2
      go_wp2_with fail
      go_region
      go_wp2_with fail
      go_roundg (15 - j)
      case rel =>
        refine ⟨j + 1, _, by omega, rfl, (hF.set (by omega) _).drew, fun i hi => ?_, (hbw.setCell (Nat.le_refl _) _).drew⟩
        by_cases e : i = j
        · subst e
          simp only [if_true]
          rfl
        · simp only [if_neg e]
          exact hall i (by omega)
      case measure => omega
    · obtain rfl : j = 16 := by omega
      go_wp2_with fail
      go_loopg [6] 48 (fun k v wq => ∃ (j : Nat) (F : Nat → Int), j + k = 64 ∧ 16 ≤ j ∧ v = .int .i64 j ∧ Words wq N 64 F ∧ (∀ i, i < j → F i = schedF b i) ∧ Below N w wq)
      case atStart => exact ⟨16, F, rfl, Nat.le_refl _, rfl, hF, fun i hi => by rw [hall i hi, schedF, dif_pos hi], hbw⟩
      case round =>
        clear hbw hall hF hj hlt
        obtain ⟨j, F, hj, h16, rfl, hF, hall, hbw⟩ := hrel
        by_cases hlt : j < 64
        · obtain ⟨i, rfl⟩ : ∃ i, j = i + 16 := ⟨j - 16, by omega⟩
          have f0 := hF.1 i (by omega)
          have f1 := hF.1 (i + 1) (by omega)
          have f9 := hF.1 (i + 9) (by omega)
          have f14 := hF.1 (i + 14) (by omega)
          have f16 := hF.1 (i + 16) (by omega)
          have ff := hF.2
          have e0 : (i : Int) + 16 - 16 = i := by omega
          have e1 : (i : Int) + 16 - 15 = i + 1 := by omega
          have e9 : (i : Int) + 16 - 7 = i + 9 := by omega
          have e14 : (i : Int) + 16 - 2 = i + 14 := by omega
          have z16 : ((i + 16 : Nat) : Int) = (i : Int) + 16 := by omega
          go_wp2_with fail
          go_quiet (fail)
          go_wp2_with fail
          refine (r25 _ _).mono ?_
          rintro e w' ⟨rfl, rfl⟩
          go_wp2_with fail
          refine (r14 _ _).mono ?_
          rintro e w' ⟨rfl, rfl⟩
          go_wp2_with fail
          refine (r15 _ _).mono ?_
          rintro e w' ⟨rfl, rfl⟩
          go_wp2_with fail
          refine (r13 _ _).mono ?_
          rintro e w' ⟨rfl, rfl⟩
          go_wp2_with fail
          go_region
          go_wp2_with fail
          go_roundg (47 - i)
          case rel =>
            refine ⟨i + 16 + 1, _, by omega, by omega, by simp, (hF.drewN _).set (by omega) _, fun k hk => ?_, (below_drewN hbw _).setCell (Nat.le_refl _) _⟩
            by_cases e : k = i + 16
            · subst e
              simp only [if_true]
              exact (schedF_step b i).symm
            · simp only [if_neg e]
              exact hall k (by omega)
          case measure => omega
        · obtain rfl : j = 64 := by omega
          have S : ∀ i, i < 8 → wr.cell? ⟨g, i, none⟩ = some (.int .u32 (s i)) := fun i hi => (hbw.cell (p := ⟨g, i, none⟩) hgl).trans (hs.1 i hi)
          have s0 := S 0 (by omega)
          have s1 := S 1 (by omega)
          have s2 := S 2 (by omega)
          have s3 := S 3 (by omega)
          have s4 := S 4 (by omega)
          have s5 := S 5 (by omega)
          have s6 := S 6 (by omega)
          have s7 := S 7 (by omega)
          go_wp2_with fail
          go_quiet (fail)
          go_wp2_with fail
          clear S s0 s1 s2 s3 s4 s5 s6 s7
          go_loopg [138, 11, 12, 13, 14, 15, 16, 17, 18] 64 (fun k v va vc vd ve vf vg vh vi wq => ∃ (j : Nat) (x : Eight), j + k = 64 ∧ v = .int .i64 j ∧ va = .int .u32 x.a ∧ vc = .int .u32 x.c ∧ vd = .int .u32 x.d ∧ ve = .int .u32 x.e ∧ vf = .int .u32 x.f ∧ vg = .int .u32 x.g ∧ vh = .int .u32 x.h ∧ vi = .int .u32 x.i ∧ x = roundsF b s j ∧ Words wq N 64 F ∧ Below N w wq)
          case atStart => exact ⟨0, eightOf s, rfl, rfl, rfl, rfl, rfl, rfl, rfl, rfl, rfl, rfl, rfl, by repeat' (first | exact hF | apply Words.drewN), by repeat' (first | exact hbw | refine below_drewN ?_ _)⟩
          case round =>
            clear hbw hF hj
            obtain ⟨j, x, hj, rfl, rfl, rfl, rfl, rfl, rfl, rfl, rfl, rfl, hx, hF, hbw⟩ := hrel
            by_cases hlt : j < 64
            · have k0 := (hbw.cell (p := ⟨1, j, none⟩) hKl).trans (hK j hlt)
              have f0 := hF.1 j hlt
              rw [hall j hlt] at f0
              obtain ⟨xa, xc, xd, xe, xf, xg, xh, xi⟩ := x
              have HX := Lib.hid hx
              clear hx hall
              obtain ⟨u, hu⟩ : ∃ u, schedF b j = u := ⟨_, rfl⟩
              obtain ⟨kk, hkk⟩ : ∃ u, kF j = u := ⟨_, rfl⟩
              rw [hu] at f0
              rw [hkk] at k0
              have HU := Lib.hid hu
              have HK := Lib.hid hkk
              clear hu hkk
              simp only at *
              go_wp2_with fail
              go_quiet (first | (go_at_call 65; exact Calls.quiet_of_same (rot_neg _ _ _ (by decide) (by decide))))
              go_wp2_with (go_at_call 65; refine (rot_neg _ _ _ (by decide) (by decide)).mono ?_; rintro e w' ⟨rfl, rfl⟩)
              go_roundg (63 - j)
              case rel =>
                refine ⟨j + 1, stepF ⟨xa, xc, xd, xe, xf, xg, xh, xi⟩ kk u, by omega, by simp, rfl, rfl, rfl, rfl, rfl, rfl, rfl, rfl, ?_, hF.drewN _, below_drewN hbw _⟩
                rw [roundsF, ← HX.out, HU.out, HK.out]
              case measure => omega
            · obtain rfl : j = 64 := by omega
              have hg0 : w.grownBy wr (some g) := grown_of_below (hN ▸ hbw) _
              have hS : Words wr g 8 s := hs.keep (hN ▸ hgl) (hN ▸ hbw)
              obtain ⟨xa, xc, xd, xe, xf, xg, xh, xi⟩ := x
              have HX := Lib.hid hx
              clear hx hall hF hbw
              simp only at *
              go_wp2_with fail
              go_loopg [210] 8 (fun k v wq => ∃ (j : Nat) (t : Nat → Int), j + k = 8 ∧ v = .int .i64 j ∧ Words wq g 8 t ∧ (∀ i, t i = if i < j then mixF b s i else s i) ∧ w.grownBy wq (some g))
              case atStart => exact ⟨0, s, rfl, rfl, hS, fun i => by rw [if_neg (by omega)], hg0⟩
              case round =>
                clear hg0 hS
                obtain ⟨j, t, hj, rfl, hS, ht, hg0⟩ := hrel
                by_cases hlt : j < 8
                · have sj := hS.1 j hlt
                  rw [ht j, if_neg (by omega)] at sj
                  have sf := hS.2
                  have hm : (s j + (Eight.at ⟨xa, xc, xd, xe, xf, xg, xh, xi⟩ j)) % 4294967296 = mixF b s j := by rw [mixF, ← HX.out]
                  have hv : ∀ w : World, (Instr.index 83 (.agg #[.int .u32 xa, .int .u32 xc, .int .u32 xd, .int .u32 xe, .int .u32 xf, .int .u32 xg, .int .u32 xh, .int .u32 xi]) (.int .i64 (j : Int))).run Tryz.prog w = .ok (.int .u32 (Eight.at ⟨xa, xc, xd, xe, xf, xg, xh, xi⟩ j)) w := by
                    exact index8 xa xc xd xe xf xg xh xi j hlt
                  generalize Eight.at ⟨xa, xc, xd, xe, xf, xg, xh, xi⟩ j = y at *
                  go_wp2_with fail
                  go_region
                  go_wp2_with fail
                  go_roundg (7 - j)
                  case rel =>
                    refine ⟨j + 1, _, by omega, rfl, (hS.set hlt _).drew, fun i => ?_, grown_drew (grown_set hg0 _ _)⟩
                    by_cases e : i = j
                    · subst e
                      simp only [if_true]
                      rw [if_pos (by omega)]
                    · simp only [if_neg e]
                      rw [ht i]
                      by_cases h : i < j
                      · rw [if_pos h, if_pos (by omega)]
                      · rw [if_neg h, if_neg (by omega)]
                  case measure => omega
                · obtain rfl : j = 8 := by omega
                  go_wp2
                  refine bodyPost_ret (v := .tuple #[]) (by simp [results, Tryz.results47]) rfl ?_
                  refine ⟨rfl, ⟨fun i hi => ?_, hS.2⟩, hg0⟩
                  have := hS.1 i hi
                  rw [ht i, if_pos hi] at this
                  exact this
end Go.Proofs.YtbopkepjbifhhaaGreatDoor

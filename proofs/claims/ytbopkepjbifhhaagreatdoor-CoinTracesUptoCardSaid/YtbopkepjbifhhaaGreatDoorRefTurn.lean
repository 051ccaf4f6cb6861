/- The document's SHA-256: turn, constants; its ch and maj are the program's. -/
import Derived.Test.YtbopkepjbifhhaaGreatDoorSum
import Derived.Laws.BitsAllLaws
namespace Go.Proofs.YtbopkepjbifhhaaGreatDoor
open Go.RowKit

theorem u32_bv (op : BinOp) (a b : Int) (f : BitVec 32 → BitVec 32 → BitVec 32) (h : bits op .u32 a b = IntKind.u32.wrap ((f (BitVec.ofInt 32 a) (BitVec.ofInt 32 b)).toNat : Int)) : bits op .u32 a b = ((f (BitVec.ofInt 32 a) (BitVec.ofInt 32 b)).toNat : Int) := by
  rw [h, IntKind.wrap_u32']
  have := (f (BitVec.ofInt 32 a) (BitVec.ofInt 32 b)).isLt
  omega
theorem bv_and (a b : Int) : bits .and .u32 a b = ((BitVec.ofInt 32 a &&& BitVec.ofInt 32 b).toNat : Int) := u32_bv .and a b (· &&& ·) rfl
theorem bv_or (a b : Int) : bits .or .u32 a b = ((BitVec.ofInt 32 a ||| BitVec.ofInt 32 b).toNat : Int) := u32_bv .or a b (· ||| ·) rfl
theorem bv_xor (a b : Int) : bits .xor .u32 a b = ((BitVec.ofInt 32 a ^^^ BitVec.ofInt 32 b).toNat : Int) := u32_bv .xor a b (· ^^^ ·) rfl
theorem bv_back (x : BitVec 32) : BitVec.ofInt 32 (x.toNat : Int) = x := by simp
theorem or_comm32 (a b : Int) : bits .or .u32 a b = bits .or .u32 b a := by rw [bv_or, bv_or, BitVec.or_comm]
theorem ch_is (e f g : Int) : bits .or .u32 (bits .and .u32 e f) (bits .and .u32 (bits .xor .u32 4294967295 e) g) = bits .xor .u32 (bits .and .u32 e f) (bits .and .u32 (bits .xor .u32 IntKind.u32.max e) g) := by
  have hm : IntKind.u32.max = 4294967295 := by decide
  rw [hm, bv_or, bv_xor (bits .and .u32 e f), bv_and e f, bv_and _ g, bv_xor _ e, bv_back, bv_back, bv_back]
  have ho : BitVec.ofInt 32 4294967295 = BitVec.allOnes 32 := by decide
  rw [ho]
  generalize BitVec.ofInt 32 e = x
  generalize BitVec.ofInt 32 f = y
  generalize BitVec.ofInt 32 g = z
  congr 2
  apply BitVec.eq_of_getLsbD_eq
  intro i hi
  simp only [BitVec.getLsbD_or, BitVec.getLsbD_and, BitVec.getLsbD_xor, BitVec.getLsbD_allOnes, hi, decide_true]
  cases x.getLsbD i <;> cases y.getLsbD i <;> cases z.getLsbD i <;> rfl
theorem maj_is (a b c : Int) : bits .or .u32 (bits .or .u32 (bits .and .u32 a b) (bits .and .u32 a c)) (bits .and .u32 b c) = bits .xor .u32 (bits .xor .u32 (bits .and .u32 a b) (bits .and .u32 a c)) (bits .and .u32 b c) := by
  rw [bv_or, bv_or, bv_xor, bv_xor, bv_and, bv_and, bv_and]
  simp only [bv_back]
  generalize BitVec.ofInt 32 a = x
  generalize BitVec.ofInt 32 b = y
  generalize BitVec.ofInt 32 c = z
  congr 2
  apply BitVec.eq_of_getLsbD_eq
  intro i hi
  simp only [BitVec.getLsbD_or, BitVec.getLsbD_and, BitVec.getLsbD_xor]
  cases x.getLsbD i <;> cases y.getLsbD i <;> cases z.getLsbD i <;> rfl

set_option maxRecDepth 10000 in
theorem turn_any (x : Int) (n : Nat) (w : World) (h0 : 0 < n) (hn : n < 32) :
    Calls Tryz.prog 50 #[.int .u32 x, .int .u64 (n : Int)] w fun e w' => e = .returned (.int .u32 (rotF x (32 - n))) ∧ w' = w := by
  have h1 : (0 : Int) ≤ n := by omega
  have h2 : IntKind.u64.wrap (32 - (n : Int)) = ((32 - n : Nat) : Int) := by
    have := IntKind.wrap_u64 (32 - (n : Int))
    omega
  have h3 : (0 : Int) ≤ ((32 - n : Nat) : Int) := by omega
  have h4 : min n 32 = n := by omega
  have h5 : min (32 - n) 32 = 32 - n := by omega
  go_enter Tryz.func50, Tryz.ntmps50
  go_wp2
  go_ret
  rw [rotF, show 32 - (32 - n) = n by omega]
  exact ⟨by rw [or_comm32]; rfl, rfl⟩

/-- Words as one value. -/
def wordL (n : Nat) (f : Nat → Int) : List Value := (List.range n).map fun i => .int .u32 (f i)
def wordV (n : Nat) (f : Nat → Int) : Value := .agg (wordL n f).toArray
theorem wordL_length (n : Nat) (f : Nat → Int) : (wordL n f).length = n := by simp [wordL]
theorem wordL_get {n : Nat} {f : Nat → Int} {i : Nat} (h : i < n) : (wordL n f)[i]? = some (.int .u32 (f i)) := by simp [wordL, h]

theorem run_loadVar_words {P : Program} (w : World) (t e : TypeId) (g n : Nat) (f : Nat → Int) (hu : P.underlying t = some (.array n e)) (hi : (P.info? t).map (·.size) = some n) (h : Words w g n f) :
    (loadVar t ⟨g, 0, none⟩).run P w = .ok (wordV n f) w := by
  have hl := run_loadCells_list (P := P) w ⟨g, 0, none⟩ (wordL n f) (fun j v hv => by
    have hj : j < n := by have := (List.getElem?_eq_some_iff.1 hv).1; rwa [wordL_length] at this
    rw [wordL_get hj] at hv
    rw [show (⟨g, 0, none⟩ : Addr).add j = ⟨g, j, none⟩ by unfold Addr.add; split <;> simp_all, h.1 j hj, hv])
  rw [wordL_length] at hl
  cases hq : P.info? t with
  | none => simp [hq] at hi
  | some i =>
    have hs : i.size = n := by simpa [hq] using hi
    simp [loadVar, isAgg, run_underlying hu, sizeOf, typeInfo, hq, hs, hl, wordV]

theorem run_storeVar_words {P : Program} (w : World) (t : TypeId) (g n : Nat) (f0 f : Nat → Int) (hi : (P.info? t).map (·.size) = some n) (h : Words w g n f0) :
    ∃ w', (storeVar t ⟨g, 0, none⟩ (wordV n f)).run P w = .ok () w' ∧ Words w' g n f ∧ w.grownBy w' (some g) := by
  have hst := run_storeCells_cells (P := P) g 0 (wordL n f) 0 w (fun j hj => by rw [wordL_length] at hj; simp only [Nat.zero_add]; rw [h.1 j hj]; rfl) (fun j _ => h.2 _) (fun u hu => by
    obtain ⟨i, _, rfl⟩ := List.mem_map.1 hu
    rfl)
  refine ⟨w.setCells g 0 (wordL n f), ?_, ⟨fun i hi => ?_, fun o => (World.frozen?_setCells _ _ _ _ _).trans (h.2 o)⟩, setCells_grown g _ _ _ _ ⟨rfl, rfl, rfl, Nat.le_refl _, fun _ _ _ => rfl⟩⟩
  · cases hq : P.info? t with
    | none => simp [hq] at hi
    | some i =>
      have hs : i.size = n := by simpa [hq] using hi
      simpa [storeVar, sizeOf, typeInfo, hq, hs, Value.cells, wordV, wordL_length] using hst
  · have := World.cell?_setCells_in g (wordL n f) 0 w (fun j hj => by rw [wordL_length] at hj; rw [Nat.zero_add, h.1 j (by omega)]; rfl) i (by rw [wordL_length]; exact hi)
    rw [Nat.zero_add] at this
    rw [this]
    have hg := wordL_get (f := f) hi
    rw [List.getElem?_eq_getElem (by rw [wordL_length]; exact hi)] at hg
    exact hg

theorem wpList_load_words {P : Program} {w : World} {ops : Array Oper} {rest : List Oper} {o : Oper} {a : Act} {Q : Exit → Act → World → Prop} (hgd : o.guard = none) (x : Operand) (t e : TypeId) (ho : o.op = .load t x)
    (g n : Nat) (f : Nat → Int) (hu : P.underlying t = some (.array n e)) (hi : (P.info? t).map (·.size) = some n) (hx : a.eval x = .pointer (some ⟨g, 0, none⟩)) (hM : Words w g n f)
    (h : wpList P ops Q rest (a.put o.dst (wordV n f)) w) : wpList P ops Q (o :: rest) a w := by
  refine wpList_plain hgd fun K hK => ?_
  have hrun := run_loadVar_words (P := P) w t e g n f hu hi hM
  unfold Oper.wp
  simp [execOp, ho, hx, Instr.loadAt, Instr.sureAddr, hrun, Result.andThen]
  exact hK _ _ h

theorem wpList_store_words {P : Program} {w : World} {ops : Array Oper} {rest : List Oper} {o : Oper} {a : Act} {Q : Exit → Act → World → Prop} (hgd : o.guard = none) (x y : Operand) (t : TypeId) (ho : o.op = .store t x y)
    (g n : Nat) (f0 f : Nat → Int) (hi : (P.info? t).map (·.size) = some n) (hx : a.eval x = .pointer (some ⟨g, 0, none⟩)) (hy : a.eval y = wordV n f) (hM : Words w g n f0)
    (h : ∀ w', Words w' g n f → w.grownBy w' (some g) → wpList P ops Q rest (a.put o.dst undef) w') : wpList P ops Q (o :: rest) a w := by
  refine wpList_plain hgd fun K hK => ?_
  obtain ⟨w', hrun, h1, h2⟩ := run_storeVar_words (P := P) w t g n f0 f hi hM
  unfold Oper.wp
  simp [execOp, ho, hx, hy, Instr.storeAt, Instr.sureAddr, hrun, Result.andThen]
  exact hK _ _ (h w' h1 h2)

theorem kV : (Value.agg #[.int .u32 1116352408, .int .u32 1899447441, .int .u32 3049323471, .int .u32 3921009573, .int .u32 961987163, .int .u32 1508970993, .int .u32 2453635748, .int .u32 2870763221, .int .u32 3624381080, .int .u32 310598401, .int .u32 607225278, .int .u32 1426881987, .int .u32 1925078388, .int .u32 2162078206, .int .u32 2614888103, .int .u32 3248222580, .int .u32 3835390401, .int .u32 4022224774, .int .u32 264347078, .int .u32 604807628, .int .u32 770255983, .int .u32 1249150122, .int .u32 1555081692, .int .u32 1996064986, .int .u32 2554220882, .int .u32 2821834349, .int .u32 2952996808, .int .u32 3210313671, .int .u32 3336571891, .int .u32 3584528711, .int .u32 113926993, .int .u32 338241895, .int .u32 666307205, .int .u32 773529912, .int .u32 1294757372, .int .u32 1396182291, .int .u32 1695183700, .int .u32 1986661051, .int .u32 2177026350, .int .u32 2456956037, .int .u32 2730485921, .int .u32 2820302411, .int .u32 3259730800, .int .u32 3345764771, .int .u32 3516065817, .int .u32 3600352804, .int .u32 4094571909, .int .u32 275423344, .int .u32 430227734, .int .u32 506948616, .int .u32 659060556, .int .u32 883997877, .int .u32 958139571, .int .u32 1322822218, .int .u32 1537002063, .int .u32 1747873779, .int .u32 1955562222, .int .u32 2024104815, .int .u32 2227730452, .int .u32 2361852424, .int .u32 2428436474, .int .u32 2756734187, .int .u32 3204031479, .int .u32 3329325298]) = wordV 64 kF := by kernel_rfl
theorem zero64 : (#[Value.int .u32 0, Value.int .u32 0, Value.int .u32 0, Value.int .u32 0, Value.int .u32 0, Value.int .u32 0, Value.int .u32 0, Value.int .u32 0, Value.int .u32 0, Value.int .u32 0, Value.int .u32 0, Value.int .u32 0, Value.int .u32 0, Value.int .u32 0, Value.int .u32 0, Value.int .u32 0, Value.int .u32 0, Value.int .u32 0, Value.int .u32 0, Value.int .u32 0, Value.int .u32 0, Value.int .u32 0, Value.int .u32 0, Value.int .u32 0, Value.int .u32 0, Value.int .u32 0, Value.int .u32 0, Value.int .u32 0, Value.int .u32 0, Value.int .u32 0, Value.int .u32 0, Value.int .u32 0, Value.int .u32 0, Value.int .u32 0, Value.int .u32 0, Value.int .u32 0, Value.int .u32 0, Value.int .u32 0, Value.int .u32 0, Value.int .u32 0, Value.int .u32 0, Value.int .u32 0, Value.int .u32 0, Value.int .u32 0, Value.int .u32 0, Value.int .u32 0, Value.int .u32 0, Value.int .u32 0, Value.int .u32 0, Value.int .u32 0, Value.int .u32 0, Value.int .u32 0, Value.int .u32 0, Value.int .u32 0, Value.int .u32 0, Value.int .u32 0, Value.int .u32 0, Value.int .u32 0, Value.int .u32 0, Value.int .u32 0, Value.int .u32 0, Value.int .u32 0, Value.int .u32 0, Value.int .u32 0] : Array Value) = Array.replicate 64 (.int .u32 0) := by kernel_rfl
set_option maxRecDepth 100000 in
set_option maxHeartbeats 4000000 in
theorem constants_any (w : World) : Calls Tryz.prog 49 #[] w fun e w' => e = .returned (.tuple #[wordV 64 kF, wordV 8 startF]) ∧ Below w.heap.size w w' := by
  have hA := words_zeros w 89 64
  have hC := words_zeros (w.alloc (.cells (Array.replicate 64 (.int .u32 0)) 89)) 83 8
  rw [World.size_alloc] at hC
  rw [← zero64] at hA hC
  have hA2 := hA.keep (by simp) (below_alloc _ (.cells (Array.replicate 8 (.int .u32 0)) 83))
  have hB := (below_alloc w (.cells #[Value.int .u32 0, Value.int .u32 0, Value.int .u32 0, Value.int .u32 0, Value.int .u32 0, Value.int .u32 0, Value.int .u32 0, Value.int .u32 0, Value.int .u32 0, Value.int .u32 0, Value.int .u32 0, Value.int .u32 0, Value.int .u32 0, Value.int .u32 0, Value.int .u32 0, Value.int .u32 0, Value.int .u32 0, Value.int .u32 0, Value.int .u32 0, Value.int .u32 0, Value.int .u32 0, Value.int .u32 0, Value.int .u32 0, Value.int .u32 0, Value.int .u32 0, Value.int .u32 0, Value.int .u32 0, Value.int .u32 0, Value.int .u32 0, Value.int .u32 0, Value.int .u32 0, Value.int .u32 0, Value.int .u32 0, Value.int .u32 0, Value.int .u32 0, Value.int .u32 0, Value.int .u32 0, Value.int .u32 0, Value.int .u32 0, Value.int .u32 0, Value.int .u32 0, Value.int .u32 0, Value.int .u32 0, Value.int .u32 0, Value.int .u32 0, Value.int .u32 0, Value.int .u32 0, Value.int .u32 0, Value.int .u32 0, Value.int .u32 0, Value.int .u32 0, Value.int .u32 0, Value.int .u32 0, Value.int .u32 0, Value.int .u32 0, Value.int .u32 0, Value.int .u32 0, Value.int .u32 0, Value.int .u32 0, Value.int .u32 0, Value.int .u32 0, Value.int .u32 0, Value.int .u32 0, Value.int .u32 0] 89)).alloc (by simp) (.cells (Array.replicate 8 (.int .u32 0)) 83)
  go_enter Tryz.func49, Tryz.ntmps49
  go_wp2_with (first
    | (refine wpList_store_words rfl _ _ 89 rfl w.heap.size 64 (fun _ => 0) kF (by kernel_rfl) rfl kV hA2 ?_; intro w3 hA3 hG3; have hC3 := hC.grown (by simp) hG3 (by simp))
    | (refine wpList_store_words rfl _ _ 83 rfl (w.heap.size + 1) 8 (fun _ => 0) startF (by kernel_rfl) rfl rfl hC3 ?_; intro w4 hC4 hG4; have hA4 := hA3.grown (by have := hG3.size; simp at this; omega) hG4 (by simp)))
  have h1 := run_loadVar_words (P := Tryz.prog) w4 89 82 w.heap.size 64 kF Tryz.underlying89 (by kernel_rfl) hA4
  have h2 := run_loadVar_words (P := Tryz.prog) w4 83 82 (w.heap.size + 1) 8 startF Tryz.underlying83 (by kernel_rfl) hC4
  refine bodyPost_ret (v := .tuple #[wordV 64 kF, wordV 8 startF]) (by simp [results, Tryz.results49, asAddr, h1, h2]) rfl ?_
  exact ⟨rfl, (hB.grown hG3 hB.size (fun k hk => by cases hk; omega)).grown hG4 (by have := hG3.size; simp at this; omega) (fun k hk => by cases hk; omega)⟩
end Go.Proofs.YtbopkepjbifhhaaGreatDoor

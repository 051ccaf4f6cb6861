/- errors.As at a target of type *api.Errno, and what an error of the program is in memory. -/
import Derived.Test.YteajgnoimbdkbaaGreatDoorErrs
import Derived.Test.YteajgnoimbdkbaaGreatDoorAsFacts
import Derived.Deep.LoopGhost
import Derived.Deep.DeepFit
import Derived.Lib.Hide

namespace Go.Proofs.YteajgnoimbdkbaaGreatDoor
open Go.RowKit Go.Extern.Stop Go.Stop Go.Extern

theorem unwrap_any (g : Nat) (v : Value) (w : World) (hc : w.cell? ⟨g, 1, none⟩ = some v) (hv : ∃ t x, v = .iface t x) :
    Calls Tryz.prog 190 #[.pointer (some ⟨g, 0, none⟩)] w fun e w' => e = .returned v ∧ w' = w := by
  obtain ⟨t, x, rfl⟩ := hv
  go_enter Tryz.func190, Tryz.ntmps190
  go_wp2
  go_ret
  exact ⟨rfl, rfl⟩

/-- What errors.as leaves behind: two new blocks, and the number in the target. -/
def AsPost (t : Addr) (n : Int) (w : World) (e : Ending) (w' : World) : Prop :=
  e = .returned (.bool true) ∧ ∃ o1 o2, w' = ((w.alloc o1).alloc o2).setCell t (.int .i64 n)

set_option maxRecDepth 100000 in
set_option maxHeartbeats 1000000 in
theorem as_err (d : Nat) (v : Value) (n : Int) (t a : Addr) (old : Value) (w : World) (B : Nat) (h : ErrIs B w d v n) (hB : B ≤ w.heap.size)
    (ha : w.cell? a = some (.pointer (some t))) (ht : w.cell? t = some old) (hf : w.frozen? t = false) :
    Calls Tryz.prog 71 #[v, .iface 83 (.pointer (some t)), .agg #[.pointer (some ⟨5, 83, none⟩), .pointer (some a), .int .u64 150], .iface 193 (.agg #[.pointer (some ⟨5, 79, none⟩)])] w (AsPost t n w) := by
  have h1 := @run_callFunc_extern Tryz.prog 68 _ (fun args => ReflectliteValue.unpack (args.getD 0 (.tuple #[]))) Tryz.func68 (by kernel_rfl) (by kernel_rfl) (by kernel_rfl) (by kernel_rfl)
  have h2 := @run_callFunc_extern Tryz.prog 116 _ ReflectliteType.typeOf Tryz.func116 (by kernel_rfl) (by kernel_rfl) (by kernel_rfl) (by kernel_rfl)
  have h3 := @run_callFunc_extern Tryz.prog 196 _ (ReflectliteType.relation "AssignableTo" ReflectliteType.assignableTo) Tryz.func196 (by kernel_rfl) (by kernel_rfl) (by kernel_rfl) (by kernel_rfl)
  have h4 := @run_callFunc_extern Tryz.prog 117 _ (ReflectliteValue.method (ReflectliteValue.valueError "reflectlite.Value.Elem" 0) ReflectliteValue.elem) Tryz.func117 (by kernel_rfl) (by kernel_rfl) (by kernel_rfl) (by kernel_rfl)
  have h5 := @run_callFunc_extern Tryz.prog 118 _ ReflectliteValue.set Tryz.func118 (by kernel_rfl) (by kernel_rfl) (by kernel_rfl) (by kernel_rfl)
  have e1 := rl_typeOfE
  have e2 := rl_typeOfF
  have e3 := rl_methodAssignableTo
  have e4 := rl_assignableE
  have e5 := rl_assignableF
  have e6 := rl_valueOfE
  have e7 := as_noAs
  have e8 := as_hasUnwrap
  have e9 := as_methodUnwrap
  have hlt : a.block < w.heap.size := by
    rcases Nat.lt_or_ge a.block w.heap.size with h | h
    · exact h
    · simp [World.cell?, Array.getElem?_eq_none h] at ha
  have htl : t.block < w.heap.size := by
    rcases Nat.lt_or_ge t.block w.heap.size with h | h
    · exact h
    · simp [World.cell?, Array.getElem?_eq_none h] at ht
  go_enter Tryz.func71, Tryz.ntmps71
  go_wp2
  go_loopg [0] d (fun k v' wr => wr = w.alloc (.cells #[.pointer (some ⟨5, 83, none⟩), .pointer (some a), .int .u64 150] 128) ∧ ErrIs B w k v' n)
  case atStart => exact ⟨rfl, h⟩
  case round =>
    obtain ⟨rfl, hv⟩ := hrel
    have el := rl_elemVP a t (w.alloc (.cells #[.pointer (some ⟨5, 83, none⟩), .pointer (some a), .int .u64 150] 128)) (by rw [World.cell?_alloc_lt _ _ a hlt]; exact ha)
    have st := rl_setE t ⟨w.heap.size + 1, 0, none⟩ n old ((w.alloc (.cells #[.pointer (some ⟨5, 83, none⟩), .pointer (some a), .int .u64 150] 128)).alloc (.cells #[.int .i64 n] 79))
      (by rw [World.cell?_alloc_at _ _ _ _ (by simp)]; rfl)
      (by rw [World.cell?_alloc_lt _ _ t (by simp; omega), World.cell?_alloc_lt _ _ t htl]; exact ht)
      (by rw [World.frozen?_alloc_old _ _ t (by simp; omega), World.frozen?_alloc_old _ _ t (Nat.ne_of_lt htl)]; exact hf)
    clear ha ht hf
    cases hv with
    | no =>
      go_wp2
      go_ret
      exact ⟨rfl, _, _, rfl⟩
    | fault d g cs v' n' hg hh hcv hv =>
      have hc : w.cell? ⟨g, 1, none⟩ = some v' := (cell_of_row w g 1 cs _ (0, 0) hh).trans hcv
      clear hh hcv
      have hgw : g < w.heap.size := by omega
      have hc' : (w.alloc (.cells #[.pointer (some ⟨5, 83, none⟩), .pointer (some a), .int .u64 150] 128)).cell? ⟨g, 1, none⟩ = some v' := by rw [World.cell?_alloc_lt _ _ ⟨g, 1, none⟩ hgw]; exact hc
      have HV := Lib.hid hv
      obtain ⟨tt, x, rfl⟩ := hv.iface
      clear hv h
      go_wp2_with (go_at_call 190; refine (unwrap_any _ _ _ hc' ⟨_, _, rfl⟩).mono ?_; rintro e w' ⟨rfl, rfl⟩)
      go_roundg d
      case measure => omega
      case rel => exact ⟨rfl, HV.out⟩

/-- The variable errors.errorType as start-up lays it. -/
def ErrType (w : World) : Prop := w.cell? ⟨0, 0, none⟩ = some (.iface 193 (.agg #[.pointer (some ⟨5, 39, none⟩)]))

def AsPost4 (t : Addr) (n : Int) (w : World) (e : Ending) (w' : World) : Prop :=
  e = .returned (.bool true) ∧ ∃ o1 o2 o3 o4, w' = ((((w.alloc o1).alloc o2).alloc o3).alloc o4).setCell t (.int .i64 n)

set_option maxRecDepth 100000 in
set_option maxHeartbeats 1000000 in
theorem as_any (d : Nat) (v : Value) (n : Int) (t : Addr) (old : Value) (w : World) (B : Nat) (h : ErrIs B w d v n) (hB : B ≤ w.heap.size)
    (hg : ErrType w) (ht : w.cell? t = some old) (hf : w.frozen? t = false) :
    Calls Tryz.prog 33 #[v, .iface 83 (.pointer (some t))] w (AsPost4 t n w) := by
  have h1 := @run_callFunc_extern Tryz.prog 68 _ (fun args => ReflectliteValue.unpack (args.getD 0 (.tuple #[]))) Tryz.func68 (by kernel_rfl) (by kernel_rfl) (by kernel_rfl) (by kernel_rfl)
  have h2 := @run_callFunc_extern Tryz.prog 69 _ (ReflectliteValue.methodAny (ReflectliteValue.valueError "reflectlite.Value.Type" 0) (fun t _ _ _ => ReflectliteType.toType t)) Tryz.func69 (by kernel_rfl) (by kernel_rfl) (by kernel_rfl) (by kernel_rfl)
  have h3 := @run_callFunc_extern Tryz.prog 70 _ (ReflectliteValue.method (ReflectliteValue.valueError "reflectlite.Value.IsNil" 0) ReflectliteValue.isNil) Tryz.func70 (by kernel_rfl) (by kernel_rfl) (by kernel_rfl) (by kernel_rfl)
  have h4 := @run_callFunc_extern Tryz.prog 184 _ (ReflectliteType.abiMethod fun t => do pure (.int .u8 (← Rtype.kind t))) Tryz.func184 (by kernel_rfl) (by kernel_rfl) (by kernel_rfl) (by kernel_rfl)
  have h5 := @run_callFunc_extern Tryz.prog 198 _ (ReflectliteType.method ReflectliteType.elem) Tryz.func198 (by kernel_rfl) (by kernel_rfl) (by kernel_rfl) (by kernel_rfl)
  have h6 := @run_callFunc_extern Tryz.prog 199 _ (ReflectliteType.relation "Implements" ReflectliteType.implements_) Tryz.func199 (by kernel_rfl) (by kernel_rfl) (by kernel_rfl) (by kernel_rfl)
  have e1 := rl_valueOfP
  have e2 := rl_typeP
  have e3 := rl_methodKind
  have e4 := rl_kindP
  have e5 := rl_kindE
  have e6 := rl_methodElem
  have e7 := rl_elemP
  have e8 := rl_methodImplements
  have e9 := rl_implementsE
  have n8 := rl_isNilP ⟨w.heap.size, 0, none⟩ t ((w.alloc (.cells #[.pointer (some t)] 83)).alloc (.cells #[.pointer (some ⟨5, 83, none⟩), .pointer (some ⟨w.heap.size, 0, none⟩), .int .u64 150] 128)) (by simp)
  have hg2 : ((w.alloc (.cells #[.pointer (some t)] 83)).alloc (.cells #[.pointer (some ⟨5, 83, none⟩), .pointer (some ⟨w.heap.size, 0, none⟩), .int .u64 150] 128)).cell? ⟨0, 0, none⟩ = some (.iface 193 (.agg #[.pointer (some ⟨5, 39, none⟩)])) := by
    have hl := cell_lt hg
    rw [World.cell?_alloc_lt _ _ ⟨0, 0, none⟩ (by simp <;> exact Nat.lt_succ_of_lt hl), World.cell?_alloc_lt _ _ ⟨0, 0, none⟩ hl]; exact hg
  have hb2 : Below w.heap.size w ((w.alloc (.cells #[.pointer (some t)] 83)).alloc (.cells #[.pointer (some ⟨5, 83, none⟩), .pointer (some ⟨w.heap.size, 0, none⟩), .int .u64 150] 128)) :=
    ((Below.refl _ _).alloc (Nat.le_refl _) _).alloc (by simp) _
  have hc := as_err d v n t ⟨w.heap.size, 0, none⟩ old _ w.heap.size ((h.mono hB).keep hb2) (by simp <;> omega) (by rw [World.cell?_alloc_lt _ _ ⟨w.heap.size, 0, none⟩ (by simp)]; simp)
    ((hb2.cell (cell_lt ht)).trans ht) ((hb2.frozen (cell_lt ht)).trans hf)
  obtain ⟨tt, x, rfl⟩ := h.iface
  clear h hg ht hf hb2
  go_enter Tryz.func33, Tryz.ntmps33
  go_wp2_with (go_at_call 71; refine hc.mono ?_; rintro e w' ⟨rfl, o1, o2, rfl⟩)
  go_ret
  exact ⟨rfl, _, _, _, _, rfl⟩
end Go.Proofs.YteajgnoimbdkbaaGreatDoor

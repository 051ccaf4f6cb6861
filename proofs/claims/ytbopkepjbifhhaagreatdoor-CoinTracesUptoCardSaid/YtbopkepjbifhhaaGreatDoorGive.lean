/- isthmuslaw14.give: a trace with a list of its own. -/
import Derived.Test.YtbopkepjbifhhaaGreatDoorRef4
namespace Go.Proofs.YtbopkepjbifhhaaGreatDoor
open Go.RowKit

def TracePost (p : List ByteArray) (b : ByteArray) (w : World) (e : Ending) (w' : World) : Prop :=
  ∃ v, e = .returned (.agg #[v, .string b]) ∧ Strs w' v p ∧ Below w.heap.size w w'

set_option maxRecDepth 100000 in
set_option maxHeartbeats 1000000 in
theorem give_any (v : Value) (p : List ByteArray) (b : ByteArray) (w : World) (hv : Strs w v p) (hl : p.length * 16 ≤ 140737488355328) :
    Calls Tryz.prog 5 #[.agg #[v, .string b]] w (TracePost p b w) := by
  obtain ⟨i0, hi0, hz0, hz1, hz2⟩ := info_parts infoStr
  have hb3 : ∀ o1 o2 o3, Below w.heap.size w (((w.alloc o1).alloc o2).alloc o3) := fun o1 o2 o3 => (((Below.refl _ _).alloc (Nat.le_refl _) _).alloc (by simp) _).alloc (by simp <;> omega) _
  have hr : ∀ o1 o2 o3, Row (((w.alloc o1).alloc o2).alloc o3) v 1 p.length (p.map Value.string) := fun o1 o2 o3 => (hv.keep (hb3 o1 o2 o3)).row
  obtain ⟨A, c, hve, hc, hcell⟩ := hv
  clear hcell
  rw [hve] at hr ⊢
  generalize hn : p.length = n at *
  have HN := Lib.hid hn.symm
  clear hn
  go_enter Tryz.func5, Tryz.ntmps5
  go_wp2_with (at_builtin; refine wpList_append_row rfl _ _ 22 rfl (w.heap.size + 3) 9 i0 (.string ⟨#[]⟩) 1 16 Tryz.underlying22 hi0 hz0 hz1 hz2 rfl (by decide) (.slice none 0 0) 0 [] rfl (World.ownsRow_nil _ _ _ _) (.slice A n c) n (p.map Value.string) rfl (hr _ _ _) (strs_one p) (by unfold maxLen; omega) (by omega) (by simp <;> omega) ?_; intro A1 c1 w1 hown hgrow _; simp only [Nat.zero_add, List.nil_append] at hown; have hbw := below_of_grown hgrow; obtain ⟨hcf, hff⟩ := bcells hbw; have hz := hbw.size; clear hgrow hr)
  refine bodyPost_ret (v := .agg #[.slice A1 n c1, .string b]) (by simp [results, Tryz.results5, go_sem, hcf]) rfl ?_
  refine ⟨_, rfl, Strs.of_own (base := w.heap.size + 3) (e := 9) (n := n) ?_ HN.out, ?_⟩
  · repeat (first | exact hown | refine ownsRow_setCell_below ?_ (by simp <;> omega) _)
  · repeat (first | exact (hb3 _ _ _).trans (hbw.mono (by simp <;> omega)) | refine Below.setCell ?_ (by simp <;> omega) _)
end Go.Proofs.YtbopkepjbifhhaaGreatDoor

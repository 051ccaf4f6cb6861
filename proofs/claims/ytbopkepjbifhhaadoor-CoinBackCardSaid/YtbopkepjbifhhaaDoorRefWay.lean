/- The document's Into and From. -/
import Derived.Test.YtbopkepjbifhhaaDoorFrom
namespace Go.Proofs.YtbopkepjbifhhaaDoor
open Go.RowKit

def RefWayPost (r : (List ByteArray × ByteArray) × Int) (w : World) (e : Ending) (w' : World) : Prop :=
  ∃ v, e = .returned (.tuple #[.agg #[v, .string r.1.2], .int .i64 r.2]) ∧ Strs w' v r.1.1 ∧ Below w.heap.size w w'

set_option maxRecDepth 100000 in
set_option maxHeartbeats 2000000 in
theorem refFrom_any (v : Value) (p : List ByteArray) (b port ch : ByteArray) (w : World) (hv : Strs w v p) (hl : p.length * 16 ≤ 140737488351232)
    (hp : port.size ≤ 9223372036854775807) (hc : ch.size ≤ 9223372036854775807) :
    Calls Tryd.prog 17 #[.agg #[v, .string b], .string port, .string ch] w (FromPost (fromF p port ch) b w) := by
  have hb2 : ∀ o1 o2, Below w.heap.size w ((w.alloc o1).alloc o2) := fun o1 o2 => ((Below.refl _ _).alloc (Nat.le_refl _) _).alloc (by simp) _
  have c1 : ∀ o1 o2, Calls Tryd.prog 20 #[.string port, .string ch] ((w.alloc o1).alloc o2) _ := fun o1 o2 => refPort_any port ch _ hp hc
  obtain ⟨A, c, rfl, hcc, hcell⟩ := hv
  have hv1 : ∀ o1 o2, Strs ((w.alloc o1).alloc o2) (.slice A p.length c) p := fun o1 o2 => Strs.keep ⟨A, c, rfl, hcc, hcell⟩ (hb2 o1 o2)
  cases hf : isFrom p port ch
  · have hr : fromF p port ch = (p, false) := by rw [fromF, hf]; rfl
    have HR := Lib.hid hr
    have hvw : Strs w (.slice A p.length c) p := ⟨A, c, rfl, hcc, hcell⟩
    have HV := Lib.hid hvw
    unfold isFrom at hf
    generalize portS port ch = e at *
    clear hr hv1 hvw
    cases he : e.toList.isEmpty
    · rw [he] at hf
      by_cases h0 : 0 < p.length
      · obtain ⟨g, o, rfl, hgl, hce⟩ := hcell h0
        have hx : p[0]? = some p[0] := List.getElem?_eq_getElem h0
        have hd : p.getD 0 ⟨#[]⟩ = p[0] := by rw [List.getD_eq_getElem?_getD, hx]; rfl
        have kx : w.cell? ⟨g, o, none⟩ = some (.string p[0]) := by have := hce 0 _ hx; rw [Nat.add_zero] at this; exact this
        have kx2 : ∀ o1 o2, ((w.alloc o1).alloc o2).cell? ⟨g, o, none⟩ = some (.string p[0]) := fun o1 o2 => ((hb2 o1 o2).cell (p := ⟨g, o, none⟩) hgl).trans kx
        have hne : (p[0].toList == e.toList) = false := by rw [hd, decide_eq_true h0] at hf; simpa using hf
        have he2 : e.toList ≠ [] := by intro h; rw [h] at he; cases he
        have hlb : ((p.length : Int) == 0) = false := by rw [beq_eq_false_iff_ne]; omega
        clear hce hx hd hf hcell kx
        generalize p[0] = x at *
        go_enter Tryd.func17, Tryd.ntmps17
        go_wp2_with fail
        refine (c1 _ _).mono ?_
        rintro e1 w1 ⟨rfl, rfl⟩
        go_wp2
        refine bodyPost_ret (v := .tuple #[.agg #[.slice (some ⟨g, o, none⟩) p.length c, .string b], .bool false]) (by simp [results, Tryd.results17, go_sem]) rfl ?_
        exact ⟨_, by rw [HR.out], by rw [HR.out]; exact HV.out.keep (hb2 _ _), hb2 _ _⟩
      · have he2 : e.toList ≠ [] := by intro h; rw [h] at he; cases he
        have hlb : ((p.length : Int) == 0) = true := by rw [beq_iff_eq]; omega
        clear hf hcell
        go_enter Tryd.func17, Tryd.ntmps17
        go_wp2_with fail
        refine (c1 _ _).mono ?_
        rintro e1 w1 ⟨rfl, rfl⟩
        go_wp2
        refine bodyPost_ret (v := .tuple #[.agg #[.slice A p.length c, .string b], .bool false]) (by simp [results, Tryd.results17, go_sem]) rfl ?_
        exact ⟨_, by rw [HR.out], by rw [HR.out]; exact HV.out.keep (hb2 _ _), hb2 _ _⟩
    · have he2 : e.toList = [] := List.isEmpty_iff.1 he
      clear hf hcell
      go_enter Tryd.func17, Tryd.ntmps17
      go_wp2_with fail
      refine (c1 _ _).mono ?_
      rintro e1 w1 ⟨rfl, rfl⟩
      go_wp2
      refine bodyPost_ret (v := .tuple #[.agg #[.slice A p.length c, .string b], .bool false]) (by simp [results, Tryd.results17, go_sem]) rfl ?_
      exact ⟨_, by rw [HR.out], by rw [HR.out]; exact HV.out.keep (hb2 _ _), hb2 _ _⟩
  · have hr : fromF p port ch = (p.drop 1, true) := by rw [fromF, hf]; rfl
    have HR := Lib.hid hr
    unfold isFrom at hf
    generalize portS port ch = e at *
    clear hr
    simp only [Bool.and_eq_true, decide_eq_true_eq, Bool.not_eq_true'] at hf
    obtain ⟨he, h0, hxe⟩ := hf
    obtain ⟨g, o, rfl, hgl, hce⟩ := hcell h0
    have hx : p[0]? = some p[0] := List.getElem?_eq_getElem h0
    have hd : p.getD 0 ⟨#[]⟩ = p[0] := by rw [List.getD_eq_getElem?_getD, hx]; rfl
    rw [hd] at hxe
    have he2 : e.toList ≠ [] := by intro h; rw [h] at he; cases he
    have kx : w.cell? ⟨g, o, none⟩ = some (.string p[0]) := by have := hce 0 _ hx; rw [Nat.add_zero] at this; exact this
    have kx2 : ∀ o1 o2, ((w.alloc o1).alloc o2).cell? ⟨g, o, none⟩ = some (.string p[0]) := fun o1 o2 => ((hb2 o1 o2).cell (p := ⟨g, o, none⟩) hgl).trans kx
    have hlb : ((p.length : Int) == 0) = false := by rw [beq_eq_false_iff_ne]; omega
    have hcg : p.length ≤ c := hcc.1
    have i0 : (1 : Int) ≤ (p.length : Int) := by omega
    clear hx hd hcell kx hv1
    generalize p[0] = x at *
    by_cases hc1 : c = 1
    · subst hc1
      have hd0 : (p.drop 1).length = 0 := by simp; omega
      have htl : Strs w (.slice (some ⟨g, o, none⟩) 0 0) (p.drop 1) := ⟨some ⟨g, o, none⟩, 0, by rw [hd0], ⟨by rw [hd0]; exact Nat.le_refl _, fun h => by cases h⟩, fun h => absurd h (by rw [hd0]; exact Nat.lt_irrefl _)⟩
      clear hd0 hce
      go_enter Tryd.func17, Tryd.ntmps17
      go_wp2_with fail
      refine (c1 _ _).mono ?_
      rintro e1 w1 ⟨rfl, rfl⟩
      go_wp2_with fail
      go_region
      go_wp2
      refine bodyPost_ret (v := .tuple #[.agg #[.slice (some ⟨g, o, none⟩) 0 0, .string b], .bool true]) (by simp [results, Tryd.results17, go_sem]) rfl ?_
      have q := (hb2 (.cells #[.slice (some ⟨g, o, none⟩) p.length 1, .string b] 34) (.cells #[.slice (some ⟨g, o, none⟩) 0 0, .string b] 34)).drew
      exact ⟨_, by rw [HR.out], by rw [HR.out]; exact htl.keep q, q⟩
    · have htl : Strs w (.slice (some ⟨g, o + 1, none⟩) (p.length - 1) (c - 1)) (p.drop 1) := ⟨some ⟨g, o + 1, none⟩, c - 1, by simp, ⟨by simp; omega, fun h => by cases h⟩, fun h => ⟨g, o + 1, rfl, hgl, fun j s hj => by
        rw [List.getElem?_drop] at hj
        rw [show o + 1 + j = o + (1 + j) by omega]
        exact hce _ _ hj⟩⟩
      clear hce
      go_enter Tryd.func17, Tryd.ntmps17
      go_wp2_with fail
      refine (c1 _ _).mono ?_
      rintro e1 w1 ⟨rfl, rfl⟩
      go_wp2_with fail
      go_region
      go_wp2
      refine bodyPost_ret (v := .tuple #[.agg #[.slice (some ⟨g, o + 1, none⟩) (p.length - 1) (c - 1), .string b], .bool true]) (by simp [results, Tryd.results17, go_sem]) rfl ?_
      have q := (hb2 (.cells #[.slice (some ⟨g, o, none⟩) p.length c, .string b] 34) (.cells #[.slice (some ⟨g, o + 1, none⟩) (p.length - 1) (c - 1), .string b] 34)).drew
      exact ⟨_, by rw [HR.out], by rw [HR.out]; exact htl.keep q, q⟩
end Go.Proofs.YtbopkepjbifhhaaDoor

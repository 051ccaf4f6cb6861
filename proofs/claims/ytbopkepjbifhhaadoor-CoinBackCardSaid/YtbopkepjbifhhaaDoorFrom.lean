/- coin.From: what a trace was ahead of an end. -/
import Derived.Test.YtbopkepjbifhhaaDoorInto
namespace Go.Proofs.YtbopkepjbifhhaaDoor
open Go.RowKit

def isFrom (p : List ByteArray) (port ch : ByteArray) : Bool := !(portS port ch).toList.isEmpty && (decide (0 < p.length) && ((p.getD 0 ⟨#[]⟩).toList == (portS port ch).toList))
/-- What a trace was ahead of an end, if it came by it. -/
def fromF (p : List ByteArray) (port ch : ByteArray) : List ByteArray × Bool := if isFrom p port ch then (p.drop 1, true) else (p, false)

def FromPost (r : List ByteArray × Bool) (b : ByteArray) (w : World) (e : Ending) (w' : World) : Prop :=
  ∃ v, e = .returned (.tuple #[.agg #[v, .string b], .bool r.2]) ∧ Strs w' v r.1 ∧ Below w.heap.size w w'

set_option maxRecDepth 100000 in
set_option maxHeartbeats 2000000 in
theorem from_any (v : Value) (p : List ByteArray) (b port ch : ByteArray) (w : World) (hv : Strs w v p) (hl : p.length * 16 ≤ 140737488351232)
    (hp : port.size ≤ 9223372036854775807) (hc : ch.size ≤ 9223372036854775807) (hT : U8Tabs w) :
    Calls Tryd.prog 16 #[.agg #[v, .string b], .string port, .string ch] w (FromPost (fromF p port ch) b w) := by
  have hb2 : ∀ o1 o2, Below w.heap.size w ((w.alloc o1).alloc o2) := fun o1 o2 => ((Below.refl _ _).alloc (Nat.le_refl _) _).alloc (by simp) _
  have c1 : ∀ o1 o2, Calls Tryd.prog 19 #[.string port, .string ch] ((w.alloc o1).alloc o2) _ := fun o1 o2 => port_any port ch _ hp hc (Utf8Tabs_below hT (hb2 o1 o2))
  obtain ⟨A, c, rfl, hcc, hcell⟩ := hv
  have hv1 : ∀ o1 o2, Strs ((w.alloc o1).alloc o2) (.slice A p.length c) p := fun o1 o2 => Strs.keep ⟨A, c, rfl, hcc, hcell⟩ (hb2 o1 o2)
  cases hf : isFrom p port ch
  · have hr : fromF p port ch = (p, false) := by rw [fromF, hf]; rfl
    have HR := Lib.hid hr
    unfold isFrom at hf
    generalize portS port ch = e at *
    clear hr
    go_enter Tryd.func16, Tryd.ntmps16
    go_wp2_with fail
    refine (c1 _ _).mono ?_
    rintro e1 w1 ⟨rfl, hb1⟩
    have hv2 := (hv1 _ _).keep hb1
    have q1 := (hb2 (.cells #[.slice A p.length c, .string b] 35) (.cells #[.slice none 0 0, .string ⟨#[]⟩] 35)).trans (hb1.mono (by simp <;> omega))
    obtain ⟨hcf, hff⟩ := bcells hb1
    have hz := hb1.size
    simp at hz
    have k0 : w1.cell? ⟨w.heap.size, 0, none⟩ = some (.slice A p.length c) := by rw [hcf _ _ (by simp; omega)]; simp
    have k1 : w1.cell? ⟨w.heap.size, 1, none⟩ = some (.string b) := by rw [hcf _ _ (by simp; omega)]; simp
    have k2 : w1.cell? ⟨w.heap.size + 1, 0, none⟩ = some (.slice none 0 0) := by rw [hcf _ _ (by simp <;> omega)]; simp
    have k3 : w1.cell? ⟨w.heap.size + 1, 1, none⟩ = some (.string ⟨#[]⟩) := by rw [hcf _ _ (by simp <;> omega)]; simp
    have kf : ∀ o, w1.frozen? ⟨w.heap.size + 1, o, none⟩ = false := fun o => by rw [hff _ _ (by simp <;> omega)]; simp
    clear hcf hff hb1 hv1 c1
    have hltz : w.heap.size + 1 < w1.heap.size := by omega
    have hltw : w.heap.size < w1.heap.size := by omega
    cases he : e.toList.isEmpty
    · rw [he] at hf
      by_cases h0 : 0 < p.length
      · obtain ⟨g, o, rfl, hgl, hce⟩ := hcell h0
        have hx : p[0]? = some p[0] := List.getElem?_eq_getElem h0
        have hd : p.getD 0 ⟨#[]⟩ = p[0] := by rw [List.getD_eq_getElem?_getD, hx]; rfl
        have kx : w1.cell? ⟨g, o, none⟩ = some (.string p[0]) := by have := hce 0 _ hx; rw [Nat.add_zero] at this; exact (q1.cell (p := ⟨g, o, none⟩) hgl).trans this
        have hne : (p[0].toList == e.toList) = false := by rw [hd, decide_eq_true h0] at hf; simpa using hf
        have he2 : e.toList ≠ [] := by intro h; rw [h] at he; cases he
        clear hce hx hd hf hcell
        generalize p[0] = x at *
        go_upto_region 4 with fail
        go_region_held3 (fun w' => w'.cell? ⟨w.heap.size, 0, none⟩ = some (.slice (some ⟨g, o, none⟩) p.length c) ∧ w'.cell? ⟨w.heap.size, 1, none⟩ = some (.string b))
          (first
            | go_keep
            | (exact ⟨(hb3.cell (p := ⟨w.heap.size, 0, none⟩) hltw).trans k0, (hb3.cell (p := ⟨w.heap.size, 1, none⟩) hltw).trans k1⟩))
          (first
            | (go_at_call 30; refine (clone_any _ p _ (hv2.keep ((Below.refl _ _).drew)) (by omega)).mono ?_; rintro e3 w3 ⟨v', rfl, hown, hb3⟩; obtain ⟨A3, c3, rfl⟩ := slice_of_own hown; have m0 : w3.cell? ⟨w.heap.size + 1, 0, none⟩ = some (.slice none 0 0) := (hb3.cell (p := ⟨w.heap.size + 1, 0, none⟩) hltz).trans k2; have m1 : w3.cell? ⟨w.heap.size + 1, 1, none⟩ = some (.string ⟨#[]⟩) := (hb3.cell (p := ⟨w.heap.size + 1, 1, none⟩) hltz).trans k3; have mf : ∀ o, w3.frozen? ⟨w.heap.size + 1, o, none⟩ = false := fun o => (hb3.frozen (p := ⟨w.heap.size + 1, o, none⟩) hltz).trans (kf o)))
        go_wp2
        refine bodyPost_ret (v := .tuple #[.agg #[.slice A3 p.length c3, .string b], .bool false]) (by simp [results, Tryd.results16, go_sem, m0, m1]) rfl ?_
        have q3 := q1.drew.trans (hb3.mono q1.size)
        refine ⟨_, by rw [HR.out], ?_, ?_⟩
        · rw [HR.out]
          refine Strs.of_own (base := w1.drew.heap.size) (e := 9) (n := p.length) ?_ rfl
          repeat (first | exact hown | refine ownsRow_setCell_below ?_ (by simp <;> omega) _)
        · repeat (first | exact q3 | refine Below.setCell ?_ (by simp <;> omega) _)
      · have he2 : e.toList ≠ [] := by intro h; rw [h] at he; cases he
        clear hf hcell
        go_upto_region 4 with fail
        go_region_held3 (fun w' => w'.cell? ⟨w.heap.size, 0, none⟩ = some (.slice A p.length c) ∧ w'.cell? ⟨w.heap.size, 1, none⟩ = some (.string b))
          (first
            | go_keep
            | (exact ⟨(hb3.cell (p := ⟨w.heap.size, 0, none⟩) hltw).trans k0, (hb3.cell (p := ⟨w.heap.size, 1, none⟩) hltw).trans k1⟩))
          (first
            | (go_at_call 30; refine (clone_any _ p _ (hv2.keep ((Below.refl _ _).drew)) (by omega)).mono ?_; rintro e3 w3 ⟨v', rfl, hown, hb3⟩; obtain ⟨A3, c3, rfl⟩ := slice_of_own hown; have m0 : w3.cell? ⟨w.heap.size + 1, 0, none⟩ = some (.slice none 0 0) := (hb3.cell (p := ⟨w.heap.size + 1, 0, none⟩) hltz).trans k2; have m1 : w3.cell? ⟨w.heap.size + 1, 1, none⟩ = some (.string ⟨#[]⟩) := (hb3.cell (p := ⟨w.heap.size + 1, 1, none⟩) hltz).trans k3; have mf : ∀ o, w3.frozen? ⟨w.heap.size + 1, o, none⟩ = false := fun o => (hb3.frozen (p := ⟨w.heap.size + 1, o, none⟩) hltz).trans (kf o)))
        go_wp2
        refine bodyPost_ret (v := .tuple #[.agg #[.slice A3 p.length c3, .string b], .bool false]) (by simp [results, Tryd.results16, go_sem, m0, m1]) rfl ?_
        have q3 := q1.drew.trans (hb3.mono q1.size)
        refine ⟨_, by rw [HR.out], ?_, ?_⟩
        · rw [HR.out]
          refine Strs.of_own (base := w1.drew.heap.size) (e := 9) (n := p.length) ?_ rfl
          repeat (first | exact hown | refine ownsRow_setCell_below ?_ (by simp <;> omega) _)
        · repeat (first | exact q3 | refine Below.setCell ?_ (by simp <;> omega) _)
    · have he2 : e.toList = [] := List.isEmpty_iff.1 he
      clear hf hcell
      go_upto_region 4 with fail
      go_region_held3 (fun w' => w'.cell? ⟨w.heap.size, 0, none⟩ = some (.slice A p.length c) ∧ w'.cell? ⟨w.heap.size, 1, none⟩ = some (.string b))
        (first
          | go_keep
          | (exact ⟨(hb3.cell (p := ⟨w.heap.size, 0, none⟩) hltw).trans k0, (hb3.cell (p := ⟨w.heap.size, 1, none⟩) hltw).trans k1⟩))
        (first
          | (go_at_call 30; refine (clone_any _ p _ (hv2.keep ((Below.refl _ _).drew)) (by omega)).mono ?_; rintro e3 w3 ⟨v', rfl, hown, hb3⟩; obtain ⟨A3, c3, rfl⟩ := slice_of_own hown; have m0 : w3.cell? ⟨w.heap.size + 1, 0, none⟩ = some (.slice none 0 0) := (hb3.cell (p := ⟨w.heap.size + 1, 0, none⟩) hltz).trans k2; have m1 : w3.cell? ⟨w.heap.size + 1, 1, none⟩ = some (.string ⟨#[]⟩) := (hb3.cell (p := ⟨w.heap.size + 1, 1, none⟩) hltz).trans k3; have mf : ∀ o, w3.frozen? ⟨w.heap.size + 1, o, none⟩ = false := fun o => (hb3.frozen (p := ⟨w.heap.size + 1, o, none⟩) hltz).trans (kf o)))
      go_wp2
      refine bodyPost_ret (v := .tuple #[.agg #[.slice A3 p.length c3, .string b], .bool false]) (by simp [results, Tryd.results16, go_sem, m0, m1]) rfl ?_
      have q3 := q1.drew.trans (hb3.mono q1.size)
      refine ⟨_, by rw [HR.out], ?_, ?_⟩
      · rw [HR.out]
        refine Strs.of_own (base := w1.drew.heap.size) (e := 9) (n := p.length) ?_ rfl
        repeat (first | exact hown | refine ownsRow_setCell_below ?_ (by simp <;> omega) _)
      · repeat (first | exact q3 | refine Below.setCell ?_ (by simp <;> omega) _)
  · have hr : fromF p port ch = (p.drop 1, true) := by rw [fromF, hf]; rfl
    have HR := Lib.hid hr
    unfold isFrom at hf
    generalize portS port ch = e at *
    clear hr
    simp only [Bool.and_eq_true, decide_eq_true_eq, Bool.not_eq_true'] at hf
    obtain ⟨he, h0, hxe⟩ := hf
    obtain ⟨g, o, rfl, hgl, hce⟩ := hcell h0
    have hx : p[0]? = some p[0] := List.getElem?_eq_getElem h0
    have hd : p.getD 0 ⟨#[]⟩ = p[0] := by rw [List.getD_eq_getElem?_getD, hx]; rfl
    rw [hd] at hxe
    have he2 : e.toList ≠ [] := by intro h; rw [h] at he; cases he
    go_enter Tryd.func16, Tryd.ntmps16
    go_wp2_with fail
    refine (c1 _ _).mono ?_
    rintro e1 w1 ⟨rfl, hb1⟩
    have hv2 := (hv1 _ _).keep hb1
    have q1 := (hb2 (.cells #[.slice (some ⟨g, o, none⟩) p.length c, .string b] 35) (.cells #[.slice none 0 0, .string ⟨#[]⟩] 35)).trans (hb1.mono (by simp <;> omega))
    obtain ⟨hcf, hff⟩ := bcells hb1
    have hz := hb1.size
    simp at hz
    have k0 : w1.cell? ⟨w.heap.size, 0, none⟩ = some (.slice (some ⟨g, o, none⟩) p.length c) := by rw [hcf _ _ (by simp; omega)]; simp
    have k1 : w1.cell? ⟨w.heap.size, 1, none⟩ = some (.string b) := by rw [hcf _ _ (by simp; omega)]; simp
    have k2 : w1.cell? ⟨w.heap.size + 1, 0, none⟩ = some (.slice none 0 0) := by rw [hcf _ _ (by simp <;> omega)]; simp
    have k3 : w1.cell? ⟨w.heap.size + 1, 1, none⟩ = some (.string ⟨#[]⟩) := by rw [hcf _ _ (by simp <;> omega)]; simp
    have kf : ∀ o, w1.frozen? ⟨w.heap.size + 1, o, none⟩ = false := fun o => by rw [hff _ _ (by simp <;> omega)]; simp
    have kx : w1.cell? ⟨g, o, none⟩ = some (.string p[0]) := by have := hce 0 _ hx; rw [Nat.add_zero] at this; exact (q1.cell (p := ⟨g, o, none⟩) hgl).trans this
    have hltz : w.heap.size + 1 < w1.heap.size := by omega
    have hltw : w.heap.size < w1.heap.size := by omega
    have hcg : p.length ≤ c := hcc.1
    have i0 : (1 : Int) ≤ (p.length : Int) := by omega
    clear hcf hff hb1 hv1 c1 hx hd hcell
    generalize p[0] = x at *
    by_cases hc1 : c = 1
    · subst hc1
      have hd0 : (p.drop 1).length = 0 := by simp; omega
      have htl : Strs w (.slice (some ⟨g, o, none⟩) 0 0) (p.drop 1) := ⟨some ⟨g, o, none⟩, 0, by rw [hd0], ⟨by rw [hd0]; exact Nat.le_refl _, fun h => by cases h⟩, fun h => absurd h (by rw [hd0]; exact Nat.lt_irrefl _)⟩
      clear hd0
      clear hce
      go_upto_region 3 with fail
      go_region_held3 (fun w' => w'.cell? ⟨w.heap.size, 0, none⟩ = some (.slice (some ⟨g, o, none⟩) p.length 1) ∧ w'.cell? ⟨w.heap.size, 1, none⟩ = some (.string b))
        (first
          | go_keep
          | (exact ⟨(hb3.cell (p := ⟨w.heap.size, 0, none⟩) hltw).trans k0, (hb3.cell (p := ⟨w.heap.size, 1, none⟩) hltw).trans k1⟩))
        (first
          | (go_at_call 30; go_must (refine (clone_any _ (p.drop 1) _ (htl.keep q1.drew) (by simp; omega)).mono ?_); rintro e3 w3 ⟨v', rfl, hown, hb3⟩; obtain ⟨A3, c3, rfl⟩ := slice_of_own hown; have m0 : w3.cell? ⟨w.heap.size + 1, 0, none⟩ = some (.slice none 0 0) := (hb3.cell (p := ⟨w.heap.size + 1, 0, none⟩) hltz).trans k2; have m1 : w3.cell? ⟨w.heap.size + 1, 1, none⟩ = some (.string ⟨#[]⟩) := (hb3.cell (p := ⟨w.heap.size + 1, 1, none⟩) hltz).trans k3; have mf : ∀ o, w3.frozen? ⟨w.heap.size + 1, o, none⟩ = false := fun o => (hb3.frozen (p := ⟨w.heap.size + 1, o, none⟩) hltz).trans (kf o)))
      go_wp2
      refine bodyPost_ret (v := .tuple #[.agg #[.slice A3 (p.drop 1).length c3, .string b], .bool true]) (by simp [results, Tryd.results16, go_sem, m0, m1, show p.length - 1 = 0 by omega]) rfl ?_
      have q3 := q1.drew.trans (hb3.mono q1.size)
      refine ⟨_, by rw [HR.out], ?_, ?_⟩
      · rw [HR.out]
        refine Strs.of_own (base := w1.drew.heap.size) (e := 9) (n := (p.drop 1).length) ?_ rfl
        repeat (first | exact hown | refine ownsRow_setCell_below ?_ (by simp <;> omega) _)
      · repeat (first | exact q3 | refine Below.setCell ?_ (by simp <;> omega) _)
    · have htl : Strs w (.slice (some ⟨g, o + 1, none⟩) (p.length - 1) (c - 1)) (p.drop 1) := ⟨some ⟨g, o + 1, none⟩, c - 1, by simp, ⟨by simp; omega, fun h => by cases h⟩, fun h => ⟨g, o + 1, rfl, hgl, fun j s hj => by
        rw [List.getElem?_drop] at hj
        rw [show o + 1 + j = o + (1 + j) by omega]
        exact hce _ _ hj⟩⟩
      clear hce
      go_upto_region 3 with fail
      go_region_held3 (fun w' => w'.cell? ⟨w.heap.size, 0, none⟩ = some (.slice (some ⟨g, o, none⟩) p.length c) ∧ w'.cell? ⟨w.heap.size, 1, none⟩ = some (.string b))
        (first
          | go_keep
          | (exact ⟨(hb3.cell (p := ⟨w.heap.size, 0, none⟩) hltw).trans k0, (hb3.cell (p := ⟨w.heap.size, 1, none⟩) hltw).trans k1⟩))
        (first
          | (go_at_call 30; go_must (refine (clone_any _ (p.drop 1) _ (htl.keep q1.drew) (by simp; omega)).mono ?_); rintro e3 w3 ⟨v', rfl, hown, hb3⟩; obtain ⟨A3, c3, rfl⟩ := slice_of_own hown; have m0 : w3.cell? ⟨w.heap.size + 1, 0, none⟩ = some (.slice none 0 0) := (hb3.cell (p := ⟨w.heap.size + 1, 0, none⟩) hltz).trans k2; have m1 : w3.cell? ⟨w.heap.size + 1, 1, none⟩ = some (.string ⟨#[]⟩) := (hb3.cell (p := ⟨w.heap.size + 1, 1, none⟩) hltz).trans k3; have mf : ∀ o, w3.frozen? ⟨w.heap.size + 1, o, none⟩ = false := fun o => (hb3.frozen (p := ⟨w.heap.size + 1, o, none⟩) hltz).trans (kf o)))
      go_wp2
      refine bodyPost_ret (v := .tuple #[.agg #[.slice A3 (p.drop 1).length c3, .string b], .bool true]) (by simp [results, Tryd.results16, go_sem, m0, m1]) rfl ?_
      have q3 := q1.drew.trans (hb3.mono q1.size)
      refine ⟨_, by rw [HR.out], ?_, ?_⟩
      · rw [HR.out]
        refine Strs.of_own (base := w1.drew.heap.size) (e := 9) (n := (p.drop 1).length) ?_ rfl
        repeat (first | exact hown | refine ownsRow_setCell_below ?_ (by simp <;> omega) _)
      · repeat (first | exact q3 | refine Below.setCell ?_ (by simp <;> omega) _)
end Go.Proofs.YtbopkepjbifhhaaDoor

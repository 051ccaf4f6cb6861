/- coin.Full: a trace as a text, or the error. -/
import Derived.Test.YtbopkepjbifhhaaGreatDoorIdx
import Derived.Test.YtbopkepjbifhhaaGreatDoorErr
import Derived.Deep.RegionHeld3
import Derived.Deep.AppendLies
namespace Go.Proofs.YtbopkepjbifhhaaGreatDoor
open Go.RowKit

theorem bcell {W w1 : World} (hb : Below W.heap.size W w1) : (∀ b o, b < W.heap.size → w1.cell? ⟨b, o, none⟩ = W.cell? ⟨b, o, none⟩) ∧ (∀ b o, b < W.heap.size → w1.frozen? ⟨b, o, none⟩ = W.frozen? ⟨b, o, none⟩) :=
  ⟨fun b o h => hb.cell (p := ⟨b, o, none⟩) h, fun b o h => hb.frozen (p := ⟨b, o, none⟩) h⟩

/-- The ends and the base, with '/' between them. -/
def joinS (p : List ByteArray) (b : ByteArray) : ByteArray := ⟨(Lib.join ((p ++ [b]).map (·.data.toList)) [47]).toArray⟩

/-- A trace's text and its error's number. -/
def fullS (p : List ByteArray) (b : ByteArray) : ByteArray × Int :=
  if 8 < p.length then (⟨#[]⟩, 2)
  else if p.any (fun s => !endB s) || !baseB b then (⟨#[]⟩, 40)
  else (joinS p b, 0)

def FullPost (p : List ByteArray) (b : ByteArray) (w : World) (e : Ending) (w' : World) : Prop :=
  ∃ ev, e = .returned (.tuple #[.string (fullS p b).1, ev]) ∧ IsErr w' ev (fullS p b).2 ∧ Below w.heap.size w w'

theorem clone_any (v : Value) (p : List ByteArray) (w : World) (hv : Strs w v p) (hl : p.length * 16 ≤ 140737488355328) :
    Calls Tryz.prog 23 #[v] w fun e w' => ∃ v', e = .returned v' ∧ w'.ownsRow w.heap.size 9 1 v' p.length (p.map Value.string) ∧ Below w.heap.size w w' := by
  obtain ⟨A, c, rfl, hc, hcell⟩ := hv
  rcases p with _ | ⟨x, p⟩
  · rcases A with _ | a
    · exact (Tryz.slices_Clone_string_nil _ _ _).mono fun e w' ⟨he, hw⟩ => ⟨_, he, by subst hw; exact World.ownsRow_nil _ _ _ _, by subst hw; exact Below.refl _ _⟩
    · exact (Tryz.slices_Clone_string_zero a c w).mono fun e w' ⟨v', he, ho, _, hb⟩ => ⟨_, he, ho, hb⟩
  · obtain ⟨b, o, rfl, hlt, hcell⟩ := hcell (by simp)
    have h := Tryz.slices_Clone_string b o (x :: p).length c (x :: p) w (Nat.le_refl _) hl (fun j hj => hcell j _ (by
      rw [List.getD_eq_getElem?_getD, List.getElem?_eq_getElem hj]; rfl))
    rw [List.take_length] at h
    exact h.mono fun e w' ⟨v', he, ho, _, hb⟩ => ⟨_, he, ho, hb⟩

theorem own_ne {w : World} {base : Nat} {e : TypeId} {v : Value} {n g : Nat} {xs : List Value} (h : w.ownsRow base e 1 v n xs) (hg : g < base) : v.ownBlock ≠ some g := by
  intro he
  have := (h.lt g he).1
  omega

theorem join_own (p : List ByteArray) (b : ByteArray) (gg cap base : Nat) (w : World) (h : w.ownsRow base 9 1 (.slice (some ⟨gg, 0, none⟩) (p.length + 1) cap) (p.length + 1) (p.map Value.string ++ [.string b]))
    (hl : p.length ≤ 8) (hj : (Lib.join ((p ++ [b]).map (·.data.toList)) [47]).length ≤ 378) :
    Calls Tryz.prog 22 #[.slice (some ⟨gg, 0, none⟩) (p.length + 1) cap, .string ⟨#[47]⟩] w fun e w' => e = .returned (.string (joinS p b)) ∧ Below w.heap.size w w' := by
  have hs : Strs w (.slice (some ⟨gg, 0, none⟩) (p.length + 1) cap) (p ++ [b]) := Strs.of_own (by simpa using h) (by simp)
  obtain ⟨A, c, hv, hc, hcs⟩ := hs
  obtain ⟨b', o, hA, hlt, hcell⟩ := hcs (by simp)
  subst hA
  injection hv with h1 h2 h3
  injection h1 with h1
  injection h1 with h1 h1'
  subst h1 h1' h3
  have := Tryz.strings_Join gg 0 cap (p ++ [b]) ⟨#[47]⟩ w hcell hlt (by simp; omega) hc.1 (by show (Lib.join _ [47]).length ≤ _; omega)
  rw [← h2] at this
  exact this

theorem infoStr : (Tryz.prog.info? 9).map (fun i => (i.zero, i.size, i.bytes)) = some (some (.string ⟨#[]⟩), 1, 16) := by kernel_rfl

theorem portS_size (a c : ByteArray) : (portS a c).size ≤ 41 := by
  unfold portS
  split
  · rename_i h
    simp only [Bool.and_eq_true] at h
    have h1 := partB_size h.1
    have h2 := partB_size h.2
    simp only [ByteArray.size_append]
    have : (ByteArray.mk #[47]).size = 1 := rfl
    omega
  · exact Nat.zero_le _
theorem endB_size {s : ByteArray} (h : endB s = true) : s.size ≤ 41 := by
  have h1 := portS_size (cutA s) (cutB s)
  simp only [endB, Bool.and_eq_true, beq_iff_eq, ByteArray.toList_eq] at h
  have h2 : (portS (cutA s) (cutB s)).size = s.size := by
    rw [← ByteArray.size_data, ← Array.length_toList, h.2, Array.length_toList, ByteArray.size_data]
  omega
theorem baseB_size {s : ByteArray} (h : baseB s = true) : s.size ≤ 16 := by
  simp [baseB] at h
  omega
theorem lens_le (l : List (List UInt8)) (n : Nat) (h : ∀ x ∈ l, x.length ≤ n) : Lib.lens l ≤ l.length * n := by
  induction l with
  | nil => simp [Lib.lens]
  | cons x l ih =>
    have h1 := h x (List.mem_cons_self ..)
    have h2 := ih fun y hy => h y (List.mem_cons_of_mem _ hy)
    simp only [Lib.lens, List.length_cons, Nat.add_mul, List.map_cons, List.sum_cons] at *
    omega
theorem join_len_le (l : List (List UInt8)) (n : Nat) (h : ∀ x ∈ l, x.length ≤ n) : (Lib.join l [47]).length ≤ l.length * (n + 1) := by
  rcases l with _ | ⟨x, r⟩
  · simp [Lib.join_nil]
  · rw [Lib.join_length]
    have := lens_le (x :: r) n h
    simp only [List.length_cons, List.length_nil, Nat.mul_add] at *
    omega
theorem full_len {p : List ByteArray} {b : ByteArray} (ho : p.any (fun s => !endB s) = false) (hb : baseB b = true) (hl : p.length ≤ 8) : (Lib.join ((p ++ [b]).map (·.data.toList)) [47]).length ≤ 378 := by
  have h1 := join_len_le ((p ++ [b]).map (·.data.toList)) 41 (by
    intro x hx
    obtain ⟨s, hs, rfl⟩ := List.mem_map.1 hx
    rw [Array.length_toList, ByteArray.size_data]
    rcases List.mem_append.1 hs with h | h
    · exact endB_size (by have := List.any_eq_false.1 ho s h; simpa using this)
    · rw [List.mem_singleton.1 h]; have := baseB_size hb; omega)
  simp only [List.length_map, List.length_append, List.length_cons, List.length_nil] at h1
  omega

set_option maxRecDepth 100000 in
set_option maxHeartbeats 1000000 in
theorem full_any (v : Value) (p : List ByteArray) (b : ByteArray) (w : World) (hv : Strs w v p) (hl : p.length ≤ 9223372036854775807) (hs : ∀ s ∈ p, s.size ≤ 9223372036854775807) (hb : b.size ≤ 9223372036854775807) (hT : U8Tabs w) :
    Calls Tryz.prog 4 #[.agg #[v, .string b]] w (FullPost p b w) := by
  have hv0 := hv
  obtain ⟨A, c, rfl, hc, hcell⟩ := hv
  by_cases h8 : 8 < p.length
  · have hr : fullS p b = (⟨#[]⟩, 2) := by simp [fullS, h8]
    have HR := Lib.hid hr
    clear hr hcell hs hv0 hT
    go_enter Tryz.func4, Tryz.ntmps4
    go_wp2_with (go_at_call 18; refine (fault_any _ _ _).mono ?_; rintro e w' ⟨rfl, rfl⟩)
    go_ret2
    exact ⟨_, by rw [HR.out]; rfl, by rw [HR.out]; exact IsErr.fault (n := 2) (by decide) rfl (by simp), ((below_alloc _ _).trans ((below_alloc _ _).mono (by simp)))⟩
  · have hbx : Below w.heap.size w (w.alloc (.cells #[.slice A p.length c, .string b] 29)) := below_alloc _ _
    have c1 := containsFunc_any _ p _ (hv0.keep hbx) hl hs (Utf8Tabs_below hT hbx)
    cases hodd : p.any (fun s => !endB s)
    · rw [hodd] at c1
      have c2 : ∀ w1, Below w.heap.size w w1 → Calls Tryz.prog 13 #[.string b] w1 _ := fun w1 hb1 => base_any b w1 hb (Utf8Tabs_below hT hb1)
      cases hbase : baseB b
      · have hr : fullS p b = (⟨#[]⟩, 40) := by simp [fullS, h8, hbase]
        have HR := Lib.hid hr
        simp only [hbase] at c2
        clear hr hcell hs hv0 hT hodd hbx hbase
        go_enter Tryz.func4, Tryz.ntmps4
        go_wp2_with fail
        refine c1.mono ?_
        rintro e w1 ⟨rfl, hb1⟩
        obtain ⟨hcf, hff⟩ := bcell hb1
        go_wp2_with fail
        refine (c2 w1 ((below_alloc _ _).trans (hb1.mono (by simp)))).mono ?_
        rintro e w2 ⟨rfl, hb2⟩
        go_wp2_with (go_at_call 18; refine (fault_any _ _ _).mono ?_; rintro e w' ⟨rfl, rfl⟩)
        go_ret2
        exact ⟨_, by rw [HR.out]; rfl, by rw [HR.out]; exact IsErr.fault (n := 40) (by decide) rfl (by simp), (((below_alloc _ _).trans (hb1.mono (by simp))).trans (hb2.mono (by have := hb1.size; simp at this; omega))).trans ((below_alloc _ _).mono (by have := hb1.size; have := hb2.size; simp at *; omega))⟩
      · have hr : fullS p b = (joinS p b, 0) := by simp [fullS, h8, hodd, hbase]
        have HR := Lib.hid hr
        have HO := Lib.hid hodd
        simp only [hbase] at c2
        have HV := Lib.hid hv0
        have HB := Lib.hid hbase
        clear hr hcell hs hv0 hT hodd hbx hbase
        go_enter Tryz.func4, Tryz.ntmps4
        go_wp2_with fail
        refine c1.mono ?_
        rintro e w1 ⟨rfl, hb1⟩
        have hbw1 := (below_alloc w (.cells #[.slice A p.length c, .string b] 29)).trans (hb1.mono (by simp))
        obtain ⟨hcf, hff⟩ := bcell hb1
        go_wp2_with fail
        refine (c2 w1 hbw1).mono ?_
        rintro e w2 ⟨rfl, hb2⟩
        have hbw2 := hbw1.trans (hb2.mono hbw1.size)
        have hg0 : w2.cell? ⟨w.heap.size, 0, none⟩ = some (.slice A p.length c) := by
          rw [hb2.cell (p := ⟨w.heap.size, 0, none⟩) (by have := hb1.size; simp at this; exact this), hb1.cell (p := ⟨w.heap.size, 0, none⟩) (by simp)]; simp
        have hg1 : w2.cell? ⟨w.heap.size, 1, none⟩ = some (.string b) := by
          rw [hb2.cell (p := ⟨w.heap.size, 1, none⟩) (by have := hb1.size; simp at this; exact this), hb1.cell (p := ⟨w.heap.size, 1, none⟩) (by simp)]; simp
        clear hcf hff hb1 hb2 hbw1
        go_wp2_with fail
        have hlw : w.heap.size < w2.heap.size := cell_lt hg0
        have hs2 : Strs w2.drew (.slice A p.length c) p := HV.out.keep hbw2.drew
        obtain ⟨i0, hi0, hz0, hz1, hz2⟩ := info_parts infoStr
        have hjb := full_len HO.out HB.out (by omega)
        have HJ := Lib.hid hjb
        clear hjb c1 c2
        have hsB : Strs (w2.alloc (.cells #[.string b] 9)).drew (.slice A p.length c) p := HV.out.keep ((hbw2.alloc hbw2.size _).drew)
        have hzB : (w2.alloc (.cells #[.string b] 9)).drew.heap.size = w2.heap.size + 1 := by simp
        have HZ := Lib.hid hzB
        clear hzB
        go_region_held3 (fun w' => w'.cell? ⟨w.heap.size, 0, none⟩ = some (.slice A p.length c) ∧ w'.cell? ⟨w.heap.size, 1, none⟩ = some (.string b))
          (first
            | go_keep
            | (exact ⟨(hb3.cell (p := ⟨w.heap.size, 0, none⟩) hlw).trans hg0, (hb3.cell (p := ⟨w.heap.size, 1, none⟩) hlw).trans hg1⟩)
            | (go_split_ands; refine ⟨?_, ?_⟩ <;> (rw [hb3.cell (by simp; omega)]; assumption))
            | (go_split_ands; refine ⟨?_, ?_⟩ <;> (rw [hgrow.cell_far _ (by first | (simp; omega) | omega) (Ne.symm hne3)]; assumption))
            | (go_split_ands; refine ⟨?_, ?_⟩ <;> (rw [hb5.cell (by have := hgrow.size; first | (simp at this; simp; omega) | (simp; omega) | omega)]; assumption)))
          (first
            | (go_at_call 23; refine (clone_any _ p _ hs2 (by omega)).mono ?_; rintro e w3 ⟨v', rfl, hown, hb3⟩; have hz3 : w2.heap.size ≤ w3.heap.size := hb3.size; have hne3 := own_ne hown hlw)
            | (go_at_call 23; go_must (refine (clone_any _ p _ hsB (by omega)).mono ?_); go_must (rintro e w3 ⟨v', rfl, hown, hb3⟩); go_must (have hz3 : w2.heap.size + 1 ≤ w3.heap.size := by have := hb3.size; rw [HZ.out] at this; exact this); go_must (have hne3 : v'.ownBlock ≠ some w.heap.size := own_ne hown (by rw [HZ.out]; omega)))
            | (refine step_append_lies _ (by rfl) _ _ _ (by rfl) w2.drew.heap.size 9 i0 _ 1 16 Tryz.underlying22 hi0 hz0 hz1 hz2 rfl (by omega) _ p.length (p.map Value.string) (by rfl) (hown.alloc _)
                ⟨w3.heap.size, 0, none⟩ 1 1 [.string b] (by rfl) (by rfl) (World.news_of_block (cs := #[.string b]) (t := 9) (fr := (0, 0)) (heap_alloc_new w3 _)) (by simp [Value.oneCell'])
                (by omega) (by unfold maxLen; omega) (by omega) (by have := hb3.size; simp at *; omega) (w3.heap.size + 1) (by simp) ?_; intro gg cap w4 hown1 hgrow hat hlt)
            | (refine step_append_lies _ (by rfl) _ _ _ (by rfl) (w2.alloc (.cells #[.string b] 9)).drew.heap.size 9 i0 _ 1 16 Tryz.underlying22 hi0 hz0 hz1 hz2 rfl (by omega) _ p.length (p.map Value.string) (by rfl) hown
                ⟨w2.heap.size, 0, none⟩ 1 1 [.string b] (by rfl) (by rfl) (World.news_of_block (cs := #[.string b]) (t := 9) (fr := (0, 0)) ((hb3.block w2.heap.size (by rw [HZ.out]; omega)).trans (heap_alloc_new w2 _))) (by simp [Value.oneCell'])
                (by omega) (by unfold maxLen; omega) (by omega) hb3.size w3.heap.size (by simp) ?_; intro gg cap w4 hown1 hgrow hat hlt)
            | (go_at_call 22; refine (join_own p b gg cap _ w4 hown1 (by omega) HJ.out).mono ?_; rintro e w5 ⟨rfl, hb5⟩))
        all_goals
          go_wp2
          go_ret2
        · have q1 : Below w.heap.size w w3 := hbw2.drew.trans (hb3.mono (Nat.le_of_lt hlw))
          have q2 := ((q1.alloc q1.size _).grown hgrow (by simp; omega) (fun k hk => by have := (hown.lt k hk).1; simp at this; omega))
          exact ⟨_, by rw [HR.out]; rfl, by rw [HR.out]; exact .nil_ _, q2.trans (hb5.mono q2.size)⟩
        · have q0 := (hbw2.alloc hbw2.size (.cells #[.string b] 9)).drew
          have q1 : Below w.heap.size w w3 := q0.trans (hb3.mono q0.size)
          have q2 := (q1.grown hgrow (by omega) (fun k hk => by have := (hown.lt k hk).1; rw [HZ.out] at this; omega))
          exact ⟨_, by rw [HR.out]; rfl, by rw [HR.out]; exact .nil_ _, q2.trans (hb5.mono q2.size)⟩
    · have hr : fullS p b = (⟨#[]⟩, 40) := by simp [fullS, h8, hodd]
      have HR := Lib.hid hr
      rw [hodd] at c1
      clear hr hcell hs hv0 hT hodd hbx
      go_enter Tryz.func4, Tryz.ntmps4
      go_wp2_with fail
      refine c1.mono ?_
      rintro e w1 ⟨rfl, hb1⟩
      go_wp2_with (go_at_call 18; refine (fault_any _ _ _).mono ?_; rintro e w' ⟨rfl, rfl⟩)
      go_ret2
      exact ⟨_, by rw [HR.out]; rfl, by rw [HR.out]; exact IsErr.fault (n := 40) (by decide) rfl (by simp), ((below_alloc _ _).trans (hb1.mono (by simp))).trans ((below_alloc _ _).mono (by have := hb1.size; simp at this; omega))⟩
end Go.Proofs.YtbopkepjbifhhaaGreatDoor

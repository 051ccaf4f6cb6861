/- A transaction among the arguments, opened; what it weighs. -/
import Derived.Test.YteajgnoimbdkbaaDoorTxLen
import Derived.Lib.SmallJoins
import Derived.SliceStrings
import Derived.SizedLaws
import Derived.Deep.Slices
namespace Go.Proofs.YteajgnoimbdkbaaDoor
open Go.ChangeShapes Go.WideShapes Go.RowKit Go.Joins Go.Deep

theorem flatten_get {sz : Nat} (hs : 0 < sz) : ∀ (css : List (List Value)), (∀ cs ∈ css, cs.length = sz) → css.flatten.length = css.length * sz ∧ ∀ (j : Nat) (u : Value), css.flatten[j]? = some u → ∃ i r cs, r < sz ∧ j = i * sz + r ∧ css[i]? = some cs ∧ cs[r]? = some u
  | [], _ => ⟨by simp, fun j u h => by simp at h⟩
  | a :: css, h => by
    obtain ⟨h1, h2⟩ := flatten_get hs css (fun cs hc => h cs (List.mem_cons_of_mem _ hc))
    have ha := h a (List.mem_cons_self ..)
    refine ⟨by rw [List.flatten_cons, List.length_append, h1, ha, List.length_cons, Nat.add_mul]; omega, fun j u hj => ?_⟩
    rw [List.flatten_cons] at hj
    rcases Nat.lt_or_ge j sz with hlt | hge
    · rw [List.getElem?_append_left (by omega)] at hj
      exact ⟨0, j, a, hlt, by omega, rfl, hj⟩
    · rw [List.getElem?_append_right (by omega), ha] at hj
      obtain ⟨i, r, cs, hr, he, hc, hu⟩ := h2 _ _ hj
      exact ⟨i + 1, r, cs, hr, by rw [Nat.add_mul]; omega, by simpa using hc, hu⟩

theorem addr_add (b o j : Nat) : (⟨b, o, none⟩ : Addr).add j = ⟨b, o + j, none⟩ := by unfold Addr.add; split <;> simp_all
theorem css_map {α : Type} (f : α → List Value) {l : List α} {css : List (List Value)} (hl : css.length = l.length) (h : ∀ (j : Nat) (cs : List Value) (a : α), css[j]? = some cs → l[j]? = some a → cs = f a) : css = l.map f := by
  apply List.ext_getElem?
  intro j
  rw [List.getElem?_map]
  rcases Nat.lt_or_ge j l.length with hj | hj
  · have h1 : css[j]? = some (css[j]'(by omega)) := List.getElem?_eq_getElem (by omega)
    have h2 : l[j]? = some l[j] := List.getElem?_eq_getElem hj
    rw [h1, h2, h j _ _ h1 h2]
    rfl
  · rw [List.getElem?_eq_none (by omega), List.getElem?_eq_none hj]
    rfl
theorem flat_one {α : Type} (f : α → Value) : ∀ l : List α, (l.map fun a => [f a]).flatten = l.map f
  | [] => rfl
  | a :: l => by simp [flat_one f l]
theorem sum_ones {α : Type} : ∀ l : List α, (l.map fun _ => 1).sum = l.length
  | [] => rfl
  | a :: l => by simp only [List.map_cons, List.sum_cons, sum_ones l, List.length_cons]; omega

section
variable {H : Type} {enc : TypeId × Value → H} {W : World} {base : Nat}
theorem bulk_map (f : Nat → DataW H) : ∀ L : List Nat, Rows.uptoBulkAll (L.map f) = (L.map fun i => Rows.uptoBulk (f i)).sum
  | [] => rfl
  | i :: L => by simp [Rows.uptoBulkAll, bulk_map f L]
theorem sum_le {f g : Nat → Nat} : ∀ L : List Nat, (∀ i ∈ L, f i ≤ g i) → (L.map f).sum ≤ (L.map g).sum
  | [], _ => Nat.le_refl _
  | i :: L, h => by
    have h1 := sum_le L (fun j hj => h j (List.mem_cons_of_mem _ hj))
    have h2 := h i (List.mem_cons_self ..)
    simp only [List.map_cons, List.sum_cons]
    omega

theorem open_list {α : Type} [Inhabited α] {t e : TypeId} {sz fuel : Nat} {v : Value} {x : DataW H × List MemPlace} (ht : Tryd.prog.underlying t = some (.slice e)) (hC : Tryd.prog.cellsOf e = sz) (hs : 0 < sz) (Q : List Value → α → Prop) (wt : α → Nat)
    (hel : ∀ n cs y, cs.length = sz → DataW.trod enc Tryd.prog W 0 (fun _ => true) true n e cs = some y → ∃ a, Q cs a ∧ wt a ≤ Rows.uptoBulk y.1)
    (h : DataW.trod enc Tryd.prog W 0 (fun _ => true) true fuel t [v] = some x) :
    ∃ (l : List α) (css : List (List Value)), Row W v sz l.length css.flatten ∧ css.length = l.length ∧ (∀ (j : Nat) (cs : List Value) (a : α), css[j]? = some cs → l[j]? = some a → cs.length = sz ∧ Q cs a) ∧ (l.map wt).sum + 1 ≤ Rows.uptoBulk x.1 := by
  rcases open_slice ht h with ⟨hcs, rfl⟩ | ⟨a, len, cap, m, n, D, Pl, hcs, _, hl, hm, hmm, rfl, hi⟩
  · obtain rfl : v = .slice none 0 0 := by simpa using hcs
    exact ⟨[], [], Row.nil_ _ _, rfl, fun j cs a h => by simp at h, by simp [Rows.uptoBulk]⟩
  · obtain rfl : v = .slice (some a) len cap := by simpa using hcs
    simp only [if_true] at hmm
    subst hmm
    rw [hC] at hi
    obtain ⟨C, hCC⟩ := choose_lt (α := List Value) (n := len) (p := fun i cs => W.cells? 0 (a.add (i * sz)) sz = some cs ∧ DataW.trod enc Tryd.prog W 0 (fun _ => true) true n e cs = some (D i, Pl i)) (fun i hlt => hi i (by omega))
    have hlen : ∀ i, i < len → (C i).length = sz := fun i hlt => (World.cells?_some (hCC i hlt).1).2.1
    obtain ⟨A, hA⟩ := choose_lt (α := α) (n := len) (p := fun i b => Q (C i) b ∧ wt b ≤ Rows.uptoBulk (D i)) (fun i hlt => hel n (C i) _ (hlen i hlt) (hCC i hlt).2)
    refine ⟨(List.range len).map A, (List.range len).map C, ?_, by simp, ?_, ?_⟩
    · obtain ⟨f1, f2⟩ := flatten_get hs ((List.range len).map C) (fun cs hc => by
        obtain ⟨i, hi', rfl⟩ := List.mem_map.1 hc
        exact hlen i (List.mem_range.1 hi'))
      simp only [List.length_map, List.length_range] at f1 ⊢
      refine ⟨f1, _, m, rfl, ⟨hl, fun h => by cases h⟩, fun h0 => ?_⟩
      have hat := (World.cells?_some (hCC 0 h0).1).2.2
      have hc0 : W.cell? (a.add (0 * sz) |>.add 0) = some ((C 0)[0]'(by rw [hlen 0 h0]; exact hs)) := (hat 0 hs).trans (List.getElem?_eq_getElem _)
      obtain ⟨b, o, spot⟩ := a
      have hspot : spot = none := by simpa [Addr.add] using World.cell?_spot hc0
      subst hspot
      refine ⟨b, o, rfl, by have := cell_lt hc0; simpa [Addr.add] using this, fun j u hj => ?_⟩
      obtain ⟨i, r, cs, hr, rfl, hcs2, hu⟩ := f2 j u hj
      have hil : i < len := by have := (List.getElem?_eq_some_iff.1 hcs2).1; simpa using this
      obtain rfl : C i = cs := by simpa [hil] using hcs2
      have := (World.cells?_some (hCC i hil).1).2.2 r hr
      rw [hu] at this
      rw [addr_add, addr_add, Nat.add_assoc] at this
      exact this
    · intro j cs b hcs2 hb
      have hil : j < len := by have := (List.getElem?_eq_some_iff.1 hcs2).1; simpa using this
      obtain rfl : C j = cs := by simpa [hil] using hcs2
      obtain rfl : A j = b := by simpa [hil] using hb
      exact ⟨hlen j hil, (hA j hil).1⟩
    · simp only [Rows.uptoBulk, bulk_map, List.map_map]
      have := sum_le (f := fun i => wt (A i)) (g := fun i => Rows.uptoBulk (D i)) (List.range len) (fun i hi' => (hA i (List.mem_range.1 hi')).2)
      simp only [Function.comp_def]
      omega

/-- A struct's fields of one cell each, whatever their number: the i-th cell's reading. -/
theorem field_one {t : TypeId} {fs : Array Field} {n : Nat} {cs : List Value} {y : DataW H × List MemPlace} (ht : Tryd.prog.underlying t = some (.struct fs)) (h : DataW.trod enc Tryd.prog W 0 (fun _ => true) true n t cs = some y) :
    ∃ (xs : List (DataW H × List MemPlace)) (m : Nat), y.1 = .agg (xs.map (·.1)) ∧ xs.length = fs.size ∧ ∀ (i : Nat) (f : Field), fs[i]? = some f → DataW.trod enc Tryd.prog W 0 (fun _ => true) true m f.type ((cs.drop f.offset).take (Tryd.prog.cellsOf f.type)) = xs[i]? := by
  obtain ⟨xs, m, _, hx, _, hl, hf⟩ := DataW.trod_struct ht h
  exact ⟨xs, m, by rw [hx], hl, hf⟩
theorem open_bts {fuel : Nat} {v : Value} {x : DataW H × List MemPlace} (h : DataW.trod enc Tryd.prog W 0 (fun _ => true) true fuel 25 [v] = some x) : ∃ b : List UInt8, Bts W v b ∧ b.length + 1 ≤ Rows.uptoBulk x.1 := by
  obtain ⟨l, css, h1, h2, h3, h4⟩ := open_list (α := UInt8) Tryd.underlying25 (sz := 1) (by kernel_rfl) (by decide) (fun cs b => cs = [.int .u8 (b.toNat : Int)]) (fun _ => 1) (fun n cs y _ hy => by
    obtain ⟨k, rfl, rfl, hwf⟩ := DataW.trod_int Tryd.underlying5 hy
    obtain ⟨k0, k1⟩ : 0 ≤ k ∧ k ≤ 255 := by simpa using bounds_u8 hwf
    exact ⟨k.toNat.toUInt8, by rw [toUInt8_toNat (by omega), Int.toNat_of_nonneg k0], by simp [Rows.uptoBulk]⟩) h
  rw [sum_ones] at h4
  refine ⟨l, ?_, h4⟩
  have e : css = l.map fun b => [Value.int .u8 (b.toNat : Int)] := css_map _ h2 (fun j cs a hc ha => (h3 j cs a hc ha).2)
  unfold Bts
  rw [e, flat_one] at h1
  exact h1
theorem open_ints {fuel : Nat} {v : Value} {x : DataW H × List MemPlace} (h : DataW.trod enc Tryd.prog W 0 (fun _ => true) true fuel 51 [v] = some x) : ∃ l : List Int, Ints W v l ∧ (∀ n ∈ l, IntOk n) ∧ l.length + 1 ≤ Rows.uptoBulk x.1 := by
  obtain ⟨l, css, h1, h2, h3, h4⟩ := open_list (α := Int) Tryd.underlying51 (sz := 1) (by kernel_rfl) (by decide) (fun cs b => cs = [.int .i64 b] ∧ IntOk b) (fun _ => 1) (fun n cs y _ hy => by
    obtain ⟨k, rfl, rfl, hwf⟩ := DataW.trod_int Tryd.underlying3 hy
    exact ⟨k, ⟨rfl, bounds_i64 hwf⟩, by simp [Rows.uptoBulk]⟩) h
  rw [sum_ones] at h4
  refine ⟨l, ?_, ?_, h4⟩
  · have e : css = l.map fun b => [Value.int .i64 b] := css_map _ h2 (fun j cs a hc ha => (h3 j cs a hc ha).2.1)
    unfold Ints intsV
    rw [e, flat_one] at h1
    exact h1
  · intro n hn
    obtain ⟨j, hj⟩ := List.getElem?_of_mem hn
    have hjl := (List.getElem?_eq_some_iff.1 hj).1
    exact (h3 j _ n (List.getElem?_eq_getElem (by omega)) hj).2.2
theorem open_texts {fuel : Nat} {v : Value} {x : DataW H × List MemPlace} (h : DataW.trod enc Tryd.prog W 0 (fun _ => true) true fuel 50 [v] = some x) : ∃ l : List (List UInt8), Strs W v (l.map strOf) ∧ listW l + 1 ≤ Rows.uptoBulk x.1 := by
  obtain ⟨l, css, h1, h2, h3, h4⟩ := open_list (α := List UInt8) Tryd.underlying50 (sz := 1) (by kernel_rfl) (by decide) (fun cs b => cs = [.string (strOf b)]) (fun b => b.length + 1) (fun n cs y _ hy => by
    obtain ⟨s, rfl, rfl, _⟩ := DataW.trod_string Tryd.underlying9 hy
    exact ⟨s.data.toList, by rw [strOf_of], by simp [Rows.uptoBulk]⟩) h
  refine ⟨l, ?_, h4⟩
  have e : css = l.map fun b => [Value.string (strOf b)] := css_map _ h2 (fun j cs a hc ha => (h3 j cs a hc ha).2)
  rw [e, flat_one] at h1
  refine Row.strs (n := l.length) ?_
  rw [List.map_map]
  exact h1
theorem open_datas {fuel : Nat} {v : Value} {x : DataW H × List MemPlace} (h : DataW.trod enc Tryd.prog W 0 (fun _ => true) true fuel 52 [v] = some x) : ∃ l : List (List UInt8), Datas W v l ∧ listW l + 1 ≤ Rows.uptoBulk x.1 := by
  obtain ⟨l, css, h1, h2, h3, h4⟩ := open_list (α := List UInt8) Tryd.underlying52 (sz := 1) (by kernel_rfl) (by decide) (fun cs b => ∃ u, cs = [u] ∧ Bts W u b) (fun b => b.length + 1) (fun n cs y hc hy => by
    match cs, hc with
    | [u], _ =>
      obtain ⟨b, hb, hw⟩ := open_bts hy
      exact ⟨b, ⟨u, rfl, hb⟩, hw⟩) h
  refine ⟨l, ⟨css.flatten, h1, ?_, ?_⟩, h4⟩
  · intro u hu
    obtain ⟨cs, hcs, hu⟩ := List.mem_flatten.1 hu
    obtain ⟨j, hj⟩ := List.getElem?_of_mem hcs
    have hjl := (List.getElem?_eq_some_iff.1 hj).1
    obtain ⟨_, u', rfl, hb⟩ := h3 j cs _ hj (List.getElem?_eq_getElem (by omega))
    obtain rfl := List.mem_singleton.1 hu
    obtain ⟨A, c, rfl⟩ := hb.form
    rfl
  · intro j u b hu hb
    obtain ⟨f1, f2⟩ := flatten_get (sz := 1) (by decide) css (fun cs hcs => by
      obtain ⟨j, hj⟩ := List.getElem?_of_mem hcs
      have hjl := (List.getElem?_eq_some_iff.1 hj).1
      exact (h3 j cs _ hj (List.getElem?_eq_getElem (by omega))).1)
    obtain ⟨i, r, cs, hr, he, hc, hu2⟩ := f2 j u hu
    obtain rfl : i = j := by omega
    obtain ⟨_, u', rfl, hb2⟩ := h3 i cs b hc hb
    obtain rfl : r = 0 := by omega
    obtain rfl : u' = u := by simpa using hu2
    exact hb2
theorem open_msgs {fuel : Nat} {v : Value} {x : DataW H × List MemPlace} (h : DataW.trod enc Tryd.prog W 0 (fun _ => true) true fuel 24 [v] = some x) : ∃ l : List MsgD, Msgs W v l ∧ (∀ m ∈ l, IntOk m.kind ∧ ∀ n ∈ m.ints, IntOk n) ∧ (l.map msgW).sum + 1 ≤ Rows.uptoBulk x.1 := by
  have : Inhabited MsgD := ⟨⟨0, [], [], []⟩⟩
  have : Inhabited MsgV := ⟨⟨0, .bool true, .bool true, .bool true⟩⟩
  obtain ⟨l, css, h1, h2, h3, h4⟩ := open_list (α := MsgD) Tryd.underlying24 (sz := 4) (by kernel_rfl) (by decide) (fun cs m => ∃ p : MsgV, cs = msgCells p ∧ MsgAt W p m ∧ (IntOk m.kind ∧ ∀ n ∈ m.ints, IntOk n)) msgW (fun n cs y hc hy => by
    match cs, hc with
    | [c0, c1, c2, c3], _ =>
      obtain ⟨xs, m, hx, hl, hf⟩ := field_one Tryd.underlying54 hy
      match xs, hl with
      | [y0, y1, y2, y3], _ =>
        have g0 := hf 0 _ rfl
        have g1 := hf 1 _ rfl
        have g2 := hf 2 _ rfl
        have g3 := hf 3 _ rfl
        rw [show Tryd.prog.cellsOf _ = 1 by kernel_rfl] at g0 g1 g2 g3
        obtain ⟨k, e0, rfl, hwf⟩ := DataW.trod_int Tryd.underlying3 g0
        obtain rfl : c0 = .int .i64 k := by simpa using e0
        obtain ⟨ts, t1, t2⟩ := open_texts (v := c1) (by simpa using g1)
        obtain ⟨is_, i1, i2, i3⟩ := open_ints (v := c2) (by simpa using g2)
        obtain ⟨dd, d1, d2⟩ := open_datas (v := c3) (by simpa using g3)
        refine ⟨⟨k, ts, is_, dd⟩, ⟨⟨k, c1, c2, c3⟩, rfl, ⟨rfl, t1, i1, d1⟩, bounds_i64 hwf, i2⟩, ?_⟩
        rw [hx]
        simp only [List.map_cons, List.map_nil, Rows.uptoBulk, Rows.uptoBulkAll, msgW]
        omega) h
  obtain ⟨P, hP⟩ := choose_lt (α := MsgV) (n := l.length) (p := fun i p => ∃ m, l[i]? = some m ∧ css[i]? = some (msgCells p) ∧ MsgAt W p m) (fun i hi => by
    obtain ⟨_, p, e, hm, _⟩ := h3 i css[i] l[i] (List.getElem?_eq_getElem (by omega)) (List.getElem?_eq_getElem hi)
    exact ⟨p, l[i], List.getElem?_eq_getElem hi, by rw [List.getElem?_eq_getElem (by omega), e], hm⟩)
  refine ⟨l, ⟨(List.range l.length).map P, ?_, fun j p m hp hm => ?_⟩, fun m hm => ?_, h4⟩
  · have e : css = ((List.range l.length).map P).map msgCells := css_map msgCells (by simp [h2]) (fun j cs a hc ha => by
      have hj : j < l.length := by rw [← h2]; exact (List.getElem?_eq_some_iff.1 hc).1
      obtain rfl : P j = a := by simpa [hj] using ha
      obtain ⟨m, _, hc2, _⟩ := hP j hj
      exact Option.some.inj (hc.symm.trans hc2))
    have : msgsCells ((List.range l.length).map P) = css.flatten := by rw [e]; rfl
    rw [this]
    exact h1
  · have hj : j < l.length := (List.getElem?_eq_some_iff.1 hm).1
    obtain rfl : P j = p := by simpa [hj] using hp
    obtain ⟨m', h1', _, h3'⟩ := hP j hj
    obtain rfl : m' = m := Option.some.inj (h1'.symm.trans hm)
    exact h3'
  · obtain ⟨j, hj⟩ := List.getElem?_of_mem hm
    have hjl := (List.getElem?_eq_some_iff.1 hj).1
    obtain ⟨_, _, _, _, h⟩ := h3 j css[j] m (List.getElem?_eq_getElem (by omega)) hj
    exact h
set_option maxRecDepth 100000 in
theorem open_tx {v : Value} {d : DataW H} {ps : List MemPlace} (hv : Value.okWide Tryd.prog W .any base 27 v) (h : DataW.Trod enc Tryd.prog W 0 (fun _ => true) true 27 v d ps) :
    ∃ x, TxAt W v x ∧ TxInts x ∧ txW x + 7 ≤ Rows.uptoBulk d := by
  have hv' := okWide_struct Tryd.underlying27 hv
  clear hv
  obtain ⟨cs, rfl, hc⟩ := hv'
  rw [show Tryd.prog.cellsOf 27 = 6 by kernel_rfl] at hc
  obtain ⟨fuel, hf⟩ := h
  obtain ⟨cs⟩ := cs
  match cs, hc with
  | [c0, c1, c2, c3, c4, c5], _ =>
    obtain ⟨xs, m, hx, hl, hg⟩ := field_one Tryd.underlying27 hf
    match xs, hl with
    | [y0, y1, y2, y3, y4], _ =>
      have g0 := hg 0 _ rfl
      have g1 := hg 1 _ rfl
      have g2 := hg 2 _ rfl
      have g3 := hg 3 _ rfl
      have g4 := hg 4 _ rfl
      rw [show Tryd.prog.cellsOf _ = 1 by kernel_rfl] at g0 g1 g3 g4
      rw [show Tryd.prog.cellsOf _ = 2 by kernel_rfl] at g2
      replace g2 : DataW.trod enc Tryd.prog W 0 (fun _ => true) true m 23 [c2, c3] = some y2 := by simpa [Value.cells] using g2
      obtain ⟨xs2, m2, hx2, hl2, hg2⟩ := field_one Tryd.underlying23 g2
      match xs2, hl2 with
      | [z0, z1], _ =>
        have k0 := hg2 0 _ rfl
        have k1 := hg2 1 _ rfl
        rw [show Tryd.prog.cellsOf _ = 1 by kernel_rfl] at k0 k1
        obtain ⟨ac, e0, rfl, _⟩ := DataW.trod_string Tryd.underlying9 g0
        obtain rfl : c0 = .string ac := by simpa [Value.cells] using e0
        obtain ⟨sq, e1, rfl, hw1⟩ := DataW.trod_int Tryd.underlying3 g1
        obtain rfl : c1 = .int .i64 sq := by simpa [Value.cells] using e1
        obtain ⟨dn, e2, rfl, _⟩ := DataW.trod_string Tryd.underlying9 k0
        obtain rfl : c2 = .string dn := by simpa [Value.cells] using e2
        obtain ⟨am, e3, rfl, hw3⟩ := DataW.trod_int Tryd.underlying3 k1
        obtain rfl : c3 = .int .i64 am := by simpa [Value.cells] using e3
        obtain ⟨ms, q1, q2, q3⟩ := open_msgs (v := c4) (by simpa [Value.cells] using g3)
        obtain ⟨sg, r1, r2⟩ := open_bts (v := c5) (by simpa [Value.cells] using g4)
        refine ⟨⟨ac.data.toList, sq, dn.data.toList, am, ms, sg⟩, ⟨c4, c5, by simp only [txV, strOf_of], q1, r1⟩, ⟨bounds_i64 hw1, bounds_i64 hw3, q2⟩, ?_⟩
        simp only at hx hx2
        subst hx
        rw [List.map_cons, List.map_cons, List.map_cons, hx2]
        simp only [List.map_cons, List.map_nil, Rows.uptoBulk, Rows.uptoBulkAll, txW]
        omega
end
end Go.Proofs.YteajgnoimbdkbaaDoor

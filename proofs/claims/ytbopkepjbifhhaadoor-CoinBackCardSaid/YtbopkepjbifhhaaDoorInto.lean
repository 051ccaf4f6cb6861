/- coin.Into: a trace, one step further on. -/
import Derived.Test.YtbopkepjbifhhaaDoorSame
import Derived.Deep.DeepCutAuto
namespace Go.Proofs.YtbopkepjbifhhaaDoor
open Go.RowKit

/-- A block that did not grow is known whole. -/
theorem grown_block {W w2 : World} {row : Option Nat} (h : W.grownBy w2 row) {g : Nat} {cs : Array Value} {t : TypeId} (hg : W.heap[g]? = some (.cells cs t (0, 0))) (hne : some g ≠ row) :
    (∀ i, w2.cell? ⟨g, i, none⟩ = cs[i]?) ∧ (∀ i, w2.frozen? ⟨g, i, none⟩ = false) := by
  have hlt : g < W.heap.size := (Array.getElem?_eq_some_iff.1 hg).1
  have h2 := (h.block g hlt hne).trans hg
  exact ⟨fun i => cell_of_row w2 g i cs t (0, 0) h2, fun i => by simp [World.frozen?, h2]⟩

theorem own_set {w : World} {base : Nat} {e : TypeId} {size n : Nat} {v : Value} {xs : List Value} (h : w.ownsRow base e size v n xs) {p : Addr} (hne : v.ownBlock ≠ some p.block) (u : Value) : (w.setCell p u).ownsRow base e size v n xs :=
  h.kept (row := some p.block) ⟨rfl, rfl, rfl, by simp [World.setCell], fun k _ hk => Below.heap_setCell w p u k (fun e => hk (by rw [e]))⟩ (.inr hne)

/-- A block of two cells, both of which have been stored into. -/
theorem set2_cells {w : World} {g : Nat} {x y u v : Value} (mc : ∀ i, w.cell? ⟨g, i, none⟩ = (#[x, y] : Array Value)[i]?) :
    ((w.setCell ⟨g, 0, none⟩ u).setCell ⟨g, 1, none⟩ v).cell? ⟨g, 0, none⟩ = some u ∧ ((w.setCell ⟨g, 0, none⟩ u).setCell ⟨g, 1, none⟩ v).cell? ⟨g, 1, none⟩ = some v := by
  have h0 : w.cell? ⟨g, 0, none⟩ = some x := mc 0
  have h1 : w.cell? ⟨g, 1, none⟩ = some y := mc 1
  constructor
  · rw [World.cell?_setCell_other _ _ _ _ (by simp), World.cell?_setCell_same _ _ _ h0]
  · exact World.cell?_setCell_same _ _ _ ((World.cell?_setCell_other _ _ _ _ (by simp)).trans h1)

theorem own_keep {w w' : World} {base : Nat} {e : TypeId} {size n : Nat} {v : Value} {xs : List Value} (h : w.ownsRow base e size v n xs) (hb : Below w.heap.size w w') : w'.ownsRow base e size v n xs :=
  h.kept (row := none) ⟨hb.os, hb.tape, hb.output, hb.size, fun k hk _ => hb.block k hk⟩ (by cases v.ownBlock <;> simp)

/-- A block that holds no Fault. -/
def NotFault (w : World) (g : Nat) : Prop := ∀ cs fz, w.heap[g]? ≠ some (.cells cs 78 fz)
theorem NotFault.of {w : World} {g : Nat} {cs : Array Value} {t : TypeId} {fz : Nat × Nat} (h : w.heap[g]? = some (.cells cs t fz)) (ht : t ≠ 78) : NotFault w g := by
  intro cs' fz' h'
  rw [h] at h'
  injection h' with h'
  injection h' with _ h2
  exact ht h2
theorem NotFault.keep {w w' : World} {g : Nat} (h : NotFault w g) (hb : Below w.heap.size w w') (hg : g < w.heap.size) : NotFault w' g := fun cs fz => by rw [hb.block g hg]; exact h cs fz
theorem NotFault.set {w : World} {g : Nat} (h : NotFault w g) (p : Addr) (u : Value) : NotFault (w.setCell p u) g := by
  intro cs fz h'
  simp only [World.setCell, Array.getElem?_modify] at h'
  split at h'
  · cases hh : w.heap[g]? with
    | none => rw [hh] at h'; cases h'
    | some o =>
      rw [hh] at h'
      cases o with
      | cells c t f =>
        simp only [Option.map_some, Option.some.injEq] at h'
        cases h'
        exact h _ _ hh
      | _ => simp at h'
  · exact h cs fz h'
theorem IsErr.set_ {w : World} {v : Value} {n : Int} (h : IsErr w v n) {p : Addr} (hp : NotFault w p.block) (u : Value) : IsErr (w.setCell p u) v n := h.set hp u

/-- A trace one step further on, and the error's number. -/
def intoF (p : List ByteArray) (b port ch : ByteArray) : (List ByteArray × ByteArray) × Int :=
  if (portS port ch).toList = [] then (([], ⟨#[]⟩), 40)
  else if (fullS (portS port ch :: p) b).2 = 0 then ((portS port ch :: p, b), 0) else (([], ⟨#[]⟩), (fullS (portS port ch :: p) b).2)

def WayPost (r : (List ByteArray × ByteArray) × Int) (w : World) (e : Ending) (w' : World) : Prop :=
  ∃ v ev, e = .returned (.tuple #[.agg #[v, .string r.1.2], ev]) ∧ Strs w' v r.1.1 ∧ IsErr w' ev r.2 ∧ Below w.heap.size w w'
theorem strs_nil (w : World) : Strs w (.slice none 0 0) [] := ⟨none, 0, rfl, ⟨Nat.le_refl _, fun _ => rfl⟩, fun h => absurd h (by simp)⟩

set_option maxRecDepth 100000 in
set_option maxHeartbeats 1000000 in
theorem into_any (v : Value) (p : List ByteArray) (b port ch : ByteArray) (w : World) (hv : Strs w v p) (hl : p.length * 16 ≤ 140737488351232) (hs : ∀ s ∈ p, s.size ≤ 9223372036854775807) (hb : b.size ≤ 9223372036854775807)
    (hp : port.size ≤ 9223372036854775807) (hc : ch.size ≤ 9223372036854775807) (hT : U8Tabs w) :
    Calls Tryd.prog 13 #[.agg #[v, .string b], .string port, .string ch] w (WayPost (intoF p b port ch) w) := by
  have hb2 : ∀ o1 o2, Below w.heap.size w ((w.alloc o1).alloc o2) := fun o1 o2 => ((Below.refl _ _).alloc (Nat.le_refl _) _).alloc (by simp) _
  have c1 : ∀ o1 o2, Calls Tryd.prog 19 #[.string port, .string ch] ((w.alloc o1).alloc o2) _ := fun o1 o2 => port_any port ch _ hp hc (Utf8Tabs_below hT (hb2 o1 o2))
  by_cases he : (portS port ch).toList = []
  · have hr : intoF p b port ch = (([], ⟨#[]⟩), 40) := by rw [intoF, if_pos he]
    have HR := Lib.hid hr
    generalize portS port ch = e at *
    obtain ⟨A, c, rfl, _, _⟩ := hv
    have HE := Lib.hid he
    clear hr hT
    go_enter Tryd.func13, Tryd.ntmps13
    go_wp2_with fail
    refine (c1 _ _).mono ?_
    rintro e1 w1 ⟨rfl, hb1⟩
    obtain ⟨hcf, hff⟩ := bcells hb1
    have hz := hb1.size
    simp at hz
    have hlt : w.heap.size + 1 < w1.heap.size := by omega
    clear hz
    go_wp2_with (go_at_call 26; refine (fault_any _ _ _).mono ?_; rintro e w' ⟨rfl, rfl⟩)
    refine bodyPost_ret (v := .tuple #[.agg #[.slice none 0 0, .string ⟨#[]⟩], .iface 76 (.pointer (some ⟨w1.heap.size, 0, none⟩))]) (by simp [results, Tryd.results13, go_sem, hcf, hlt]) rfl ?_
    have q1 := (hb2 (.cells #[.slice A p.length c, .string b] 35) (.cells #[.slice none 0 0, .string ⟨#[]⟩] 35)).trans (hb1.mono (by simp <;> omega))
    refine ⟨_, _, by rw [HR.out], by rw [HR.out]; exact strs_nil _, ?_, ?_⟩
    · rw [HR.out]
      exact IsErr.fault (n := 40) (by decide) rfl (by simp)
    · repeat (first | exact q1 | refine Below.setCell ?_ (by simp <;> omega) _ | refine Below.alloc ?_ (by simp <;> omega) _)
  · have hff0 := full_any
    go_enter Tryd.func13, Tryd.ntmps13
    obtain ⟨A, c, rfl, hcc, hcell⟩ := hv
    have hv1 : ∀ o1 o2, Strs ((w.alloc o1).alloc o2) (.slice A p.length c) p := fun o1 o2 => Strs.keep ⟨A, c, rfl, hcc, hcell⟩ (hb2 o1 o2)
    generalize hep : portS port ch = e at *
    have HE := Lib.hid hep
    have he2 : e.toList.isEmpty = false := by simpa using he
    clear hep hcell
    go_wp2_with fail
    refine (c1 _ _).mono ?_
    rintro e1 w1 ⟨rfl, hb1⟩
    have hv2 := (hv1 _ _).keep hb1
    obtain ⟨hcf, hff⟩ := bcells hb1
    have hz := hb1.size
    simp at hz
    have q1 := (hb2 (.cells #[.slice A p.length c, .string b] 35) (.cells #[.slice none 0 0, .string ⟨#[]⟩] 35)).trans (hb1.mono (by simp <;> omega))
    have k0 : w1.cell? ⟨w.heap.size, 0, none⟩ = some (.slice A p.length c) := by rw [hcf _ _ (by simp; omega)]; simp
    have k1 : w1.cell? ⟨w.heap.size, 1, none⟩ = some (.string b) := by rw [hcf _ _ (by simp; omega)]; simp
    have k2 : w1.cell? ⟨w.heap.size + 1, 0, none⟩ = some (.slice none 0 0) := by rw [hcf _ _ (by simp <;> omega)]; simp
    have k3 : w1.cell? ⟨w.heap.size + 1, 1, none⟩ = some (.string ⟨#[]⟩) := by rw [hcf _ _ (by simp <;> omega)]; simp
    have kf : ∀ o, w1.frozen? ⟨w.heap.size + 1, o, none⟩ = false := fun o => by rw [hff _ _ (by simp <;> omega)]; simp
    have kt : NotFault w1 (w.heap.size + 1) := NotFault.of ((hb1.block (w.heap.size + 1) (by simp <;> omega)).trans (by have := heap_alloc_new (w.alloc (.cells #[.slice A p.length c, .string b] 35)) (.cells #[.slice none 0 0, .string ⟨#[]⟩] 35); rw [World.size_alloc] at this; exact this)) (by decide)
    clear hcf hff hb1 hv1 c1 hff0
    go_upto_region 4 with fail
    go_cut [9] (fun s9 wx => ∃ (g : Nat) (A' : Option Addr) (c' : Nat), s9 = .pointer (some ⟨g, 0, none⟩) ∧ wx.cell? ⟨g, 0, none⟩ = some (.slice A' (1 + p.length) c') ∧ wx.cell? ⟨g, 1, none⟩ = some (.string b) ∧ wx.ownsRow w1.heap.size 9 1 (.slice A' (1 + p.length) c') (1 + p.length) ((e :: p).map Value.string) ∧ Below w1.heap.size w1 wx)
    case first =>
      obtain ⟨i0, hi0, hz0, hz1, hz2⟩ := info_parts infoStr
      have hvB : ∀ W, Below w1.heap.size w1 W → Row W (.slice A p.length c) 1 p.length (p.map Value.string) := fun W h => (hv2.keep h).row
      have hltw : w.heap.size < w1.heap.size := by omega
      have bw1 : Below w1.heap.size w1 (w1.alloc (.cells #[.string e] 9)).drew := (below_alloc _ _).drew
      have bw2 : Below w1.heap.size w1 ((w1.alloc (.cells #[.string e] 9)).alloc (.cells #[.slice none 0 0, .string ⟨#[]⟩] 35)).drew := ((below_alloc _ _).alloc (by simp) _).drew
      have bw3 : Below w1.heap.size w1 ((w1.alloc (.cells #[.slice none 0 0, .string ⟨#[]⟩] 35)).alloc (.cells #[.string e] 9)).drew := ((below_alloc _ _).alloc (by simp) _).drew
      have zb2 : ((w1.alloc (.cells #[.string e] 9)).alloc (.cells #[.slice none 0 0, .string ⟨#[]⟩] 35)).drew.heap[w1.heap.size + 1]? = some (.cells #[.slice none 0 0, .string ⟨#[]⟩] 35) := (by have := heap_alloc_new (w1.alloc (.cells #[.string e] 9)) (.cells #[.slice none 0 0, .string ⟨#[]⟩] 35); rw [World.size_alloc] at this; exact this)
      have zb3 : ((w1.alloc (.cells #[.slice none 0 0, .string ⟨#[]⟩] 35)).alloc (.cells #[.string e] 9)).drew.heap[w1.heap.size]? = some (.cells #[.slice none 0 0, .string ⟨#[]⟩] 35) := ((heap_alloc_old (w1.alloc (.cells #[.slice none 0 0, .string ⟨#[]⟩] 35)) (.cells #[.string e] 9) (r := w1.heap.size) (by simp)).trans (heap_alloc_new w1 _))
      have ow1 : (w1.alloc (.cells #[.string e] 9)).drew.ownsRow w1.heap.size 9 1 (.slice (some ⟨w1.heap.size, 0, none⟩) 1 1) 1 [.string e] := own_block _ (heap_alloc_new w1 _) (Nat.le_refl _) rfl (by decide)
      have ow2 : ((w1.alloc (.cells #[.string e] 9)).alloc (.cells #[.slice none 0 0, .string ⟨#[]⟩] 35)).drew.ownsRow w1.heap.size 9 1 (.slice (some ⟨w1.heap.size, 0, none⟩) 1 1) 1 [.string e] := ow1.alloc _
      have ow3 : ((w1.alloc (.cells #[.slice none 0 0, .string ⟨#[]⟩] 35)).alloc (.cells #[.string e] 9)).drew.ownsRow w1.heap.size 9 1 (.slice (some ⟨w1.heap.size + 1, 0, none⟩) 1 1) 1 [.string e] := own_block _ (by have := heap_alloc_new (w1.alloc (.cells #[.slice none 0 0, .string ⟨#[]⟩] 35)) (.cells #[.string e] 9); rw [World.size_alloc] at this; exact this) (by omega) rfl (by decide)
      have n0 := World.new_ne w1 _ k0
      have n1 := World.new_ne w1 _ k1
      go_region_held3 (fun w' => w'.cell? ⟨w.heap.size, 0, none⟩ = some (.slice A p.length c) ∧ w'.cell? ⟨w.heap.size, 1, none⟩ = some (.string b))
        (first
          | go_keep
          | (refine ⟨(Below.cell (B := w1.heap.size) (w := w1) (p := ⟨w.heap.size, 0, none⟩) ?_ hltw).trans k0, (Below.cell (B := w1.heap.size) (w := w1) (p := ⟨w.heap.size, 1, none⟩) ?_ hltw).trans k1⟩ <;>
             (repeat' (first | exact hB2 | exact hB2.size | exact Below.refl _ _ | apply Below.drew | apply Below.alloc | apply Below.setCell | omega | (simp; done) | (simp; omega)))))
        (first
          | (refine step_append_row rfl _ _ 32 rfl w1.heap.size 9 i0 (.string ⟨#[]⟩) 1 16 Tryd.underlying32 hi0 hz0 hz1 hz2 rfl (by decide) (.slice (some ⟨w1.heap.size, 0, none⟩) 1 1) 1 [.string e] rfl (ow1) (.slice A p.length c) p.length (p.map Value.string) rfl (hvB _ (bw1)) (strs_one p) (by unfold maxLen; omega) (by omega) (bw1).size ?_; intro A1 c1 w2 hown hgrow hat; have hB2 : Below w1.heap.size w1 w2 := Below.grown (bw1) hgrow (bw1).size (fun k hk => Nat.le_trans (Nat.le_refl _) (Nat.le_of_eq (Option.some.inj hk))))
          | (refine step_append_row rfl _ _ 32 rfl w1.heap.size 9 i0 (.string ⟨#[]⟩) 1 16 Tryd.underlying32 hi0 hz0 hz1 hz2 rfl (by decide) (.slice (some ⟨w1.heap.size, 0, none⟩) 1 1) 1 [.string e] rfl (ow2) (.slice A p.length c) p.length (p.map Value.string) rfl (hvB _ (bw2)) (strs_one p) (by unfold maxLen; omega) (by omega) (bw2).size ?_; intro A1 c1 w2 hown hgrow hat; obtain ⟨mc, mf⟩ := grown_block hgrow zb2 (by simp [Value.ownBlock]); have hB2 : Below w1.heap.size w1 w2 := Below.grown (bw2) hgrow (bw2).size (fun k hk => Nat.le_trans (Nat.le_refl _) (Nat.le_of_eq (Option.some.inj hk))))
          | (refine step_append_row rfl _ _ 32 rfl w1.heap.size 9 i0 (.string ⟨#[]⟩) 1 16 Tryd.underlying32 hi0 hz0 hz1 hz2 rfl (by decide) (.slice (some ⟨w1.heap.size + 1, 0, none⟩) 1 1) 1 [.string e] rfl (ow3) (.slice A p.length c) p.length (p.map Value.string) rfl (hvB _ (bw3)) (strs_one p) (by unfold maxLen; omega) (by omega) (bw3).size ?_; intro A1 c1 w2 hown hgrow hat; obtain ⟨mc, mf⟩ := grown_block hgrow zb3 (by simp [Value.ownBlock]); have hB2 : Below w1.heap.size w1 w2 := Below.grown (bw3) hgrow (bw3).size (fun k hk => Nat.le_trans (Nat.le_succ _) (Nat.le_of_eq (Option.some.inj hk)))))
      · go_wp2_with fail
        go_meet
        exact ⟨_, _, _, rfl, by simp, by simp, hown.alloc _, hB2.alloc hB2.size _⟩
      · go_wp2_with fail
        go_meet
        have hne : ∀ g, (Value.slice A1 (1 + p.length) c1).ownBlock = some g → g ≠ (w1.heap.size + 1) := by
          intro g hg
          rcases hat with h | h <;> rw [h] at hg <;> simp [Value.ownBlock] at hg <;> omega
        have hne2 : (Value.slice A1 (1 + p.length) c1).ownBlock ≠ some (w1.heap.size + 1) := fun h => hne _ h rfl
        refine ⟨_, _, _, rfl, ?_, ?_, own_set (own_set hown hne2 _) hne2 _, (hB2.setCell (by simp) _).setCell (by simp) _⟩
        · exact (set2_cells mc).1
        · exact (set2_cells mc).2
      · go_wp2_with fail
        go_meet
        have hne : ∀ g, (Value.slice A1 (1 + p.length) c1).ownBlock = some g → g ≠ w1.heap.size := by
          intro g hg
          rcases hat with h | h <;> rw [h] at hg <;> simp [Value.ownBlock] at hg <;> omega
        have hne2 : (Value.slice A1 (1 + p.length) c1).ownBlock ≠ some w1.heap.size := fun h => hne _ h rfl
        refine ⟨_, _, _, rfl, ?_, ?_, own_set (own_set hown hne2 _) hne2 _, (hB2.setCell (by simp) _).setCell (by simp) _⟩
        · exact (set2_cells mc).1
        · exact (set2_cells mc).2
    case rest =>
      obtain ⟨g, A', c', rfl, j0, j1, jo, jb⟩ := hcut
      have js : Strs wc (.slice A' (1 + p.length) c') (e :: p) := Strs.of_own jo (by simp; omega)
      have q2 := q1.trans (jb.mono q1.size)
      have c2 := full_any _ (e :: p) b wc js (by simp; omega) (by
        intro s hs2
        rcases List.mem_cons.1 hs2 with rfl | h
        · rw [← HE.out]; exact Nat.le_trans (portS_size _ _) (by omega)
        · exact hs s h) hb (Utf8Tabs_below hT q2)
      unfold FullPost at c2
      have r0 : wc.cell? ⟨w.heap.size + 1, 0, none⟩ = some (.slice none 0 0) := (jb.cell (p := ⟨w.heap.size + 1, 0, none⟩) (by simp; omega)).trans k2
      have r1 : wc.cell? ⟨w.heap.size + 1, 1, none⟩ = some (.string ⟨#[]⟩) := (jb.cell (p := ⟨w.heap.size + 1, 1, none⟩) (by simp; omega)).trans k3
      have rf : ∀ o, wc.frozen? ⟨w.heap.size + 1, o, none⟩ = false := fun o => (jb.frozen (p := ⟨w.heap.size + 1, o, none⟩) (by simp; omega)).trans (kf o)
      have hwl : w.heap.size + 1 < wc.heap.size := by have := jb.size; omega
      have hgl : g < wc.heap.size := cell_lt j0
      clear k0 k1 k2 k3 kf
      by_cases h0 : (fullS (e :: p) b).2 = 0
      · have hr : intoF p b port ch = ((e :: p, b), 0) := by rw [intoF, HE.out, if_neg he, if_pos h0]
        have HR := Lib.hid hr
        rw [h0] at c2
        clear hr h0 hs
        go_wp2_with fail
        refine c2.mono ?_
        rintro e2 w2 ⟨ev, rfl, hE, hb2⟩
        obtain rfl := hE.zero
        have jo2 := own_keep jo hb2
        obtain ⟨hcf, hff⟩ := bcells hb2
        have hz2 := hb2.size
        clear c2 hE
        go_wp2
        refine bodyPost_ret (v := .tuple #[.agg #[.slice A' (1 + p.length) c', .string b], .nilIface]) (by simp [results, Tryd.results13, go_sem, hcf, r0, r1, hwl]) rfl ?_
        have q3 := q2.trans (hb2.mono q2.size)
        refine ⟨_, _, by rw [HR.out], ?_, by rw [HR.out]; exact .nil_ _, ?_⟩
        · rw [HR.out]
          refine Strs.of_own (base := w1.heap.size) (e := 9) (n := 1 + p.length) ?_ (by simp; omega)
          repeat (first | exact jo2 | refine ownsRow_setCell_below ?_ (by simp <;> omega) _)
        · repeat (first | exact q3 | refine Below.setCell ?_ (by simp <;> omega) _)
      · have hr : intoF p b port ch = (([], ⟨#[]⟩), (fullS (e :: p) b).2) := by rw [intoF, HE.out, if_neg he, if_neg h0]
        have HR := Lib.hid hr
        generalize (fullS (e :: p) b).2 = n at *
        clear hr hs
        go_wp2_with fail
        refine c2.mono ?_
        rintro e2 w2 ⟨ev, rfl, hE, hb2⟩
        have HN := Lib.hid hE
        obtain ⟨t1, x1, rfl⟩ := hE.iface h0
        obtain ⟨hcf, hff⟩ := bcells hb2
        have hz2 := hb2.size
        clear c2 hE
        go_wp2
        refine bodyPost_ret (v := .tuple #[.agg #[.slice none 0 0, .string ⟨#[]⟩], .iface t1 x1]) (by simp [results, Tryd.results13, go_sem, hcf, r0, r1, hwl]) rfl ?_
        have q3 := q2.trans (hb2.mono q2.size)
        refine ⟨_, _, by rw [HR.out], by rw [HR.out]; exact strs_nil _, ?_, ?_⟩
        · rw [HR.out]
          have kt2 : NotFault w2 (w.heap.size + 1) := (kt.keep jb (by omega)).keep hb2 (by omega)
          exact (HN.out.set_ kt2 _).set_ (kt2.set _ _) _
        · repeat (first | exact q3 | refine Below.setCell ?_ (by simp <;> omega) _)
end Go.Proofs.YtbopkepjbifhhaaDoor

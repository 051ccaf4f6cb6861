/- txs.put: all of a transaction but its signature, behind what a writer holds. -/
import Derived.Test.YteajgnoimbdkbaaGreatDoorWInt
import Derived.Test.YteajgnoimbdkbaaGreatDoorWText
import Derived.Test.YteajgnoimbdkbaaGreatDoorTxCheck
import Derived.Deep.RegionHeld3
namespace Go.Proofs.YteajgnoimbdkbaaGreatDoor
open Go.RowKit

theorem WKeep.drew {g : Nat} {a b : World} (h : WKeep g a b) : WKeep g a b.drew := h
/-- A new block, not the writer's, stands. -/
theorem WKeep.box {B g : Nat} {l : List UInt8} {w w' : World} {o : Obj} (hA : WriterAt B g l w) (h : WKeep g (w.alloc o) w') : w'.heap[w.heap.size]? = some o := by
  obtain ⟨_, hlt⟩ := hA.lt
  refine (h.2.1 w.heap.size (by simp) (by omega) ?_).trans (heap_alloc_new w o)
  intro e
  have e2 : rowOf (w.alloc o) g = rowOf w g := by unfold rowOf; rw [heap_alloc_old w o hlt]
  rw [e2] at e
  exact Nat.lt_irrefl _ (hA.rowLt _ e)
theorem cell_of_block {w : World} {k i : Nat} {cs : Array Value} {t : TypeId} {fz : Nat × Nat} (h : w.heap[k]? = some (.cells cs t fz)) : w.cell? ⟨k, i, none⟩ = cs[i]? := by simp [World.cell?, h]
theorem WriterAt.alloc {B g : Nat} {l : List UInt8} {w : World} (h : WriterAt B g l w) (o : Obj) : WriterAt B g l (w.alloc o) := h.below (below_alloc w o)
theorem WriterAt.drew {B g : Nat} {l : List UInt8} {w : World} (h : WriterAt B g l w) : WriterAt B g l w.drew := h

theorem uintL_len {n : Nat} (h : n < 18446744073709551616) : (uintL n).length ≤ 10 := by
  have key : ∀ (k n : Nat), n < 128 ^ (k + 1) → (uintL n).length ≤ k + 1 := by
    intro k
    induction k with
    | zero => intro n h; rw [uintL_small (by simpa using h)]; simp
    | succ k ih =>
      intro n h
      by_cases h1 : n < 128
      · rw [uintL_small h1]; simp
      · rw [uintL_big h1]
        have := ih (n / 128) (by rw [Nat.pow_succ] at h; omega)
        simp; omega
  exact key 9 n (by
    have : (128 : Nat) ^ (9 + 1) = 1180591620717411303424 := by decide
    omega)
theorem bytesL_len {b : List UInt8} (h : b.length < 18446744073709551616) : (bytesL b).length ≤ 10 + b.length := by
  have := uintL_len h
  simp only [bytesL, List.length_append]
  omega
theorem intL_len {n : Int} (h0 : -9223372036854775808 ≤ n) (h1 : n ≤ 9223372036854775807) : (intL n).length ≤ 10 := uintL_len (zigF_lt n h0 h1)

theorem wrap_len {n : Nat} (h : n ≤ 9223372036854775807) : IntKind.u64.wrap (n : Int) = n := by rw [IntKind.wrap_u64]; omega
theorem uintW_any (B g : Nat) (l : List UInt8) (n : Nat) (w : World) (h : WriterAt B g l w) (hn : n ≤ 9223372036854775807) (hlen : l.length + (uintL n).length ≤ 140737488355328) :
    Calls Tryz.prog 73 #[.pointer (some ⟨g, 0, none⟩), .int .u64 (IntKind.u64.wrap (n : Int))] w (WriterPost B g (l ++ uintL n) w) := by
  rw [wrap_len hn]
  exact uint_any B g l n w h (by omega) hlen

theorem app_len {a b T : List UInt8} (h : a ++ b = T) : a.length + b.length = T.length := by rw [← h, List.length_append]
theorem drop_flat {α : Type} (f : α → List UInt8) {l : List α} {j : Nat} {x : α} (h : l[j]? = some x) : (l.drop j).flatMap f = f x ++ (l.drop (j + 1)).flatMap f := by
  obtain ⟨hj, rfl⟩ := List.getElem?_eq_some_iff.1 h
  rw [List.drop_eq_getElem_cons hj, List.flatMap_cons]
theorem drop_end {α : Type} (f : α → List UInt8) {l : List α} {j : Nat} (h : l.length ≤ j) : (l.drop j).flatMap f = [] := by rw [List.drop_eq_nil_of_le h]; rfl
/-- The j-th text. -/
theorem Strs.at {w : World} {A : Option Addr} {n c j : Nat} {l : List (List UInt8)} {t : List UInt8} (h : Strs w (.slice A n c) (l.map strOf)) (ht : l[j]? = some t) : ∃ bb o, A = some ⟨bb, o, none⟩ ∧ w.cell? ⟨bb, o + j, none⟩ = some (.string (strOf t)) := by
  have hj := (List.getElem?_eq_some_iff.1 ht).1
  obtain ⟨bb, o, c', e, _, _, hcell⟩ := h.row.cell (by rw [List.length_map]; omega)
  obtain ⟨rfl, -, -⟩ := Value.slice.inj e
  exact ⟨bb, o, rfl, hcell j _ (by simp [ht])⟩
theorem Ints.at {w : World} {A : Option Addr} {n c j : Nat} {l : List Int} {t : Int} (h : Ints w (.slice A n c) l) (ht : l[j]? = some t) : ∃ bb o, A = some ⟨bb, o, none⟩ ∧ w.cell? ⟨bb, o + j, none⟩ = some (.int .i64 t) := by
  have hj := (List.getElem?_eq_some_iff.1 ht).1
  obtain ⟨bb, o, c', e, _, _, hcell⟩ := Row.cell h (by omega)
  obtain ⟨rfl, -, -⟩ := Value.slice.inj e
  exact ⟨bb, o, rfl, hcell j _ (by simp [intsV, ht])⟩
theorem Datas.at {w : World} {A : Option Addr} {n c j : Nat} {l : List (List UInt8)} {t : List UInt8} (h : Datas w (.slice A n c) l) (ht : l[j]? = some t) : ∃ bb o Ad cd, A = some ⟨bb, o, none⟩ ∧ w.cell? ⟨bb, o + j, none⟩ = some (.slice Ad t.length cd) ∧ Bts w (.slice Ad t.length cd) t := by
  have hj := (List.getElem?_eq_some_iff.1 ht).1
  obtain ⟨vs, h1, _, h2⟩ := h
  obtain ⟨bb, o, c', e, _, _, hcell⟩ := h1.cell (by omega)
  obtain ⟨rfl, -, -⟩ := Value.slice.inj e
  have hvl : j < vs.length := by have := h1.1; omega
  have hu : vs[j]? = some vs[j] := List.getElem?_eq_getElem hvl
  have hc := hcell j _ hu
  have hb := h2 j _ t hu ht
  generalize vs[j] = u at *
  obtain ⟨Ad, cd, rfl⟩ := hb.form
  exact ⟨bb, o, Ad, cd, rfl, hc, hb⟩

def IntOk (n : Int) : Prop := -9223372036854775808 ≤ n ∧ n ≤ 9223372036854775807
def TxInts (x : TxD) : Prop := IntOk x.seq ∧ IntOk x.amount ∧ ∀ m ∈ x.msgs, IntOk m.kind ∧ ∀ n ∈ m.ints, IntOk n

set_option maxRecDepth 100000 in
set_option maxHeartbeats 4000000 in
theorem put_any (w0 w : World) (v : Value) (x : TxD) (g : Nat) (l : List UInt8) (hx : TxAt w0 v x) (hb0 : Below w0.heap.size w0 w) (h : WriterAt w0.heap.size g l w) (hs : TxSmall x) (hi : TxInts x) (hlen : l.length + (putL x).length ≤ 140737488355000) :
    Calls Tryz.prog 34 #[.pointer (some ⟨g, 0, none⟩), v] w (WriterPost w0.heap.size g (l ++ putL x) w) := by
  obtain ⟨ms, sg, rfl, h1, h2⟩ := hx
  obtain ⟨s1, s2, s3, s4, s5⟩ := hs
  obtain ⟨hi1, hi2, hi3⟩ := hi
  obtain ⟨A1, c1, rfl⟩ := h1.form
  obtain ⟨A2, c2, rfl⟩ := h2.form
  unfold txV
  obtain ⟨hB, hlt⟩ := h.lt
  have hp : (putL x).length = (bytesL x.account).length + ((intL x.seq).length + ((bytesL x.denom).length + ((intL x.amount).length + ((uintL x.msgs.length).length + (x.msgs.flatMap msgL).length)))) := by simp [putL]
  have hbx : ∀ W, WKeep g (w.alloc (.cells #[.string (strOf x.account), .int .i64 x.seq, .string (strOf x.denom), .int .i64 x.amount, .slice A1 x.msgs.length c1, .slice A2 x.sign.length c2] 29)) W → W.cell? ⟨w.heap.size, 0, none⟩ = some (.string (strOf x.account)) ∧ W.cell? ⟨w.heap.size, 1, none⟩ = some (.int .i64 x.seq) ∧ W.cell? ⟨w.heap.size, 2, none⟩ = some (.string (strOf x.denom)) ∧ W.cell? ⟨w.heap.size, 3, none⟩ = some (.int .i64 x.amount) ∧ W.cell? ⟨w.heap.size, 4, none⟩ = some (.slice A1 x.msgs.length c1) := fun W hW => by
    have := WKeep.box h hW
    refine ⟨?_, ?_, ?_, ?_, ?_⟩ <;> rw [cell_of_block this] <;> rfl
  have hba := below_alloc w (.cells #[.string (strOf x.account), .int .i64 x.seq, .string (strOf x.denom), .int .i64 x.amount, .slice A1 x.msgs.length c1, .slice A2 x.sign.length c2] 29)
  have hka := WKeep.alloc g w (.cells #[.string (strOf x.account), .int .i64 x.seq, .string (strOf x.denom), .int .i64 x.amount, .slice A1 x.msgs.length c1, .slice A2 x.sign.length c2] 29) hlt
  have hwa := h.alloc (.cells #[.string (strOf x.account), .int .i64 x.seq, .string (strOf x.denom), .int .i64 x.amount, .slice A1 x.msgs.length c1, .slice A2 x.sign.length c2] 29)
  have KB := Lib.hid hbx
  have HP := Lib.hid hp
  clear hp hbx
  obtain ⟨k0, k1, k2, k3, k4⟩ := KB.out _ (WKeep.refl _ _)
  have cT : ∀ W, WriterAt w0.heap.size g l W → Calls Tryz.prog 42 #[.pointer (some ⟨g, 0, none⟩), .string (strOf x.account)] W (WriterPost w0.heap.size g (l ++ bytesL x.account) W) := fun W hW => wtext_any w0.heap.size g l x.account W hW (by omega) (by have := HP.out; omega)
  have cI1 : ∀ W, WriterAt w0.heap.size g (l ++ bytesL x.account) W → Calls Tryz.prog 72 #[.pointer (some ⟨g, 0, none⟩), .int .i64 x.seq] W (WriterPost w0.heap.size g (l ++ bytesL x.account ++ intL x.seq) W) := fun W hW => int_any w0.heap.size g (l ++ bytesL x.account) x.seq W hW hi1.1 hi1.2 (by have := HP.out; simp only [List.length_append]; unfold intL at this; omega)
  have cT2 : ∀ W, WriterAt w0.heap.size g (l ++ bytesL x.account ++ intL x.seq) W → Calls Tryz.prog 42 #[.pointer (some ⟨g, 0, none⟩), .string (strOf x.denom)] W (WriterPost w0.heap.size g (l ++ bytesL x.account ++ intL x.seq ++ bytesL x.denom) W) := fun W hW => wtext_any w0.heap.size g (l ++ bytesL x.account ++ intL x.seq) x.denom W hW (by omega) (by have := HP.out; simp only [List.length_append]; omega)
  have cI2 : ∀ W, WriterAt w0.heap.size g (l ++ bytesL x.account ++ intL x.seq ++ bytesL x.denom) W → Calls Tryz.prog 72 #[.pointer (some ⟨g, 0, none⟩), .int .i64 x.amount] W (WriterPost w0.heap.size g (l ++ bytesL x.account ++ intL x.seq ++ bytesL x.denom ++ intL x.amount) W) := fun W hW => int_any w0.heap.size g (l ++ bytesL x.account ++ intL x.seq ++ bytesL x.denom) x.amount W hW hi2.1 hi2.2 (by have := HP.out; simp only [List.length_append]; unfold intL at *; omega)
  have cU : ∀ W, WriterAt w0.heap.size g (l ++ bytesL x.account ++ intL x.seq ++ bytesL x.denom ++ intL x.amount) W → Calls Tryz.prog 73 #[.pointer (some ⟨g, 0, none⟩), .int .u64 (IntKind.u64.wrap (x.msgs.length : Int))] W (WriterPost w0.heap.size g (l ++ bytesL x.account ++ intL x.seq ++ bytesL x.denom ++ intL x.amount ++ uintL x.msgs.length) W) := fun W hW => uintW_any w0.heap.size g (l ++ bytesL x.account ++ intL x.seq ++ bytesL x.denom ++ intL x.amount) x.msgs.length W hW (by omega) (by have := HP.out; simp only [List.length_append]; omega)
  go_enter Tryz.func34, Tryz.ntmps34
  go_wp2_with fail
  generalize hW : (w.alloc (.cells #[.string (strOf x.account), .int .i64 x.seq, .string (strOf x.denom), .int .i64 x.amount, .slice A1 x.msgs.length c1, .slice A2 x.sign.length c2] 29)) = W at *
  have HW := Lib.hid hW
  clear hW
  have hwd := hwa.drew
  have kkd : WKeep g W W.drew := WKeep.refl g W
  go_region_held3 (fun w' => w'.cell? ⟨w.heap.size, 0, none⟩ = some (.string (strOf x.account)) ∧ w'.cell? ⟨w.heap.size, 1, none⟩ = some (.int .i64 x.seq) ∧ w'.cell? ⟨w.heap.size, 2, none⟩ = some (.string (strOf x.denom)) ∧ w'.cell? ⟨w.heap.size, 3, none⟩ = some (.int .i64 x.amount) ∧ w'.cell? ⟨w.heap.size, 4, none⟩ = some (.slice A1 x.msgs.length c1))
    (first
      | exact KB.out _ kk5
      | exact KB.out _ kk4
      | exact KB.out _ kk3
      | exact KB.out _ kk2
      | exact KB.out _ kk1
      | exact KB.out _ kkd
      | go_keep)
    (first
      | (go_at_call 73; (refine (cU _ hh4).mono ?_); rintro e5 w5 ⟨rfl, hh5, hb5, hk5⟩; have kk5 := kk4.trans hk5)
      | (go_at_call 72; (refine (cI2 _ hh3).mono ?_); rintro e4 w4 ⟨rfl, hh4, hb4, hk4⟩; have kk4 := kk3.trans hk4)
      | (go_at_call 42; (refine (cT2 _ hh2).mono ?_); rintro e3 w3 ⟨rfl, hh3, hb3, hk3⟩; have kk3 := kk2.trans hk3)
      | (go_at_call 72; (refine (cI1 _ hh1).mono ?_); rintro e2 w2 ⟨rfl, hh2, hb2, hk2⟩; have kk2 := kk1.trans hk2)
      | (go_at_call 42; (refine (cT _ hwd).mono ?_); rintro e1 w1 ⟨rfl, hh1, hb1, hk1⟩; have kk1 := kkd.trans hk1))
  have hB5 : Below w0.heap.size w w5 := (hba.mono (by omega)).trans ((((((Below.refl _ W).drew.trans hb1).trans hb2).trans hb3).trans hb4).trans hb5)
  have hTl : (l ++ putL x).length ≤ 140737488355000 := by rw [List.length_append]; exact hlen
  have HT : Hid (l ++ bytesL x.account ++ intL x.seq ++ bytesL x.denom ++ intL x.amount ++ uintL x.msgs.length ++ (x.msgs.drop 0).flatMap msgL = l ++ putL x) := Lib.hid (by simp [putL])
  obtain ⟨k0, k1, k2, k3, k4⟩ := KB.out _ kk5
  have KW := hka
  clear cT cI1 cT2 cI2 cU hb1 hb2 hb3 hb4 hb5 hk1 hk2 hk3 hk4 hk5 kk1 kk2 kk3 kk4 hh1 hh2 hh3 hh4 hwd kkd hwa hba hka HP
  generalize l ++ bytesL x.account ++ intL x.seq ++ bytesL x.denom ++ intL x.amount ++ uintL x.msgs.length = l5 at *
  generalize l ++ putL x = T at *
  go_wp2_with fail
  go_loopg [36] x.msgs.length (fun k s36 wq => ∃ (i : Nat) (l' : List UInt8), k + i = x.msgs.length ∧ s36 = .int .i64 (i : Int) ∧ Hid (l' ++ (x.msgs.drop i).flatMap msgL = T) ∧ WriterAt w0.heap.size g l' wq ∧ Below w0.heap.size w wq ∧ WKeep g W wq)
  case atStart => exact ⟨0, l5, by omega, rfl, HT, hh5, hB5, kk5⟩
  case round =>
    clear HT hh5 hB5 kk5 k0 k1 k2 k3 k4
    obtain ⟨i, l', hi, rfl, HT, hwr, hBr, hKr⟩ := hrel
    by_cases hlt : i < x.msgs.length
    · have hx : x.msgs[i]? = some x.msgs[i] := List.getElem?_eq_getElem hlt
      generalize x.msgs[i] = m at *
      have hmem := List.mem_of_getElem? hx
      obtain ⟨z1, z2, z3, z4, z5⟩ := s5 m hmem
      obtain ⟨hik, hin⟩ := hi3 m hmem
      obtain ⟨bb, o, B1, B2, B3, d1, d2, d3, rfl, n0, n1, n2, n3, hat⟩ := h1.at hx
      have hB0 := hb0.trans hBr
      have m0 := (hB0.cell (cell_lt n0)).trans n0
      have m1 := (hB0.cell (cell_lt n1)).trans n1
      have m2 := (hB0.cell (cell_lt n2)).trans n2
      have m3 := (hB0.cell (cell_lt n3)).trans n3
      obtain ⟨-, a1, a2, a3⟩ := hat
      have hT1 : l' ++ (msgL m ++ (x.msgs.drop (i + 1)).flatMap msgL) = T := by have := HT.out; rw [drop_flat msgL hx] at this; exact this
      have e1 : msgL m ++ (x.msgs.drop (i + 1)).flatMap msgL = intL m.kind ++ (uintL m.texts.length ++ (m.texts.flatMap bytesL ++ (uintL m.ints.length ++ (m.ints.flatMap intL ++ (uintL m.data.length ++ (m.data.flatMap bytesL ++ (x.msgs.drop (i + 1)).flatMap msgL)))))) := by simp [msgL]
      rw [e1] at hT1
      have HT1 := Lib.hid hT1
      have i0 : (0 : Int) ≤ (i : Int) := by omega
      have i1 : (i : Int) < (x.msgs.length : Int) := by omega
      clear hx hmem n0 n1 n2 n3 hT1 e1
      have hgr := hwr.lt.2
      have hVa := hwr.alloc (.cells #[.int .i64 m.kind, .slice B1 m.texts.length d1, .slice B2 m.ints.length d2, .slice B3 m.data.length d3] 35)
      have hVB := hBr.alloc (by omega) (.cells #[.int .i64 m.kind, .slice B1 m.texts.length d1, .slice B2 m.ints.length d2, .slice B3 m.data.length d3] 35)
      have hVK := hKr.trans (WKeep.alloc g wr (.cells #[.int .i64 m.kind, .slice B1 m.texts.length d1, .slice B2 m.ints.length d2, .slice B3 m.data.length d3] 35) hgr)
      have hbx : ∀ W', WKeep g (wr.alloc (.cells #[.int .i64 m.kind, .slice B1 m.texts.length d1, .slice B2 m.ints.length d2, .slice B3 m.data.length d3] 35)) W' → W'.cell? ⟨wr.heap.size, 0, none⟩ = some (.int .i64 m.kind) ∧ W'.cell? ⟨wr.heap.size, 1, none⟩ = some (.slice B1 m.texts.length d1) ∧ W'.cell? ⟨wr.heap.size, 2, none⟩ = some (.slice B2 m.ints.length d2) ∧ W'.cell? ⟨wr.heap.size, 3, none⟩ = some (.slice B3 m.data.length d3) := fun W' hW' => by
        have := WKeep.box hwr hW'
        refine ⟨?_, ?_, ?_, ?_⟩ <;> rw [cell_of_block this] <;> rfl
      have KM := Lib.hid hbx
      clear hbx
      go_wp2_with fail
      generalize wr.alloc (.cells #[.int .i64 m.kind, .slice B1 m.texts.length d1, .slice B2 m.ints.length d2, .slice B3 m.data.length d3] 35) = V at *
      generalize wr.heap.size = gm at *
      obtain ⟨q0, q1, q2, q3⟩ := KM.out _ (WKeep.refl _ _)
      have cI : ∀ W, WriterAt w0.heap.size g l' W → Calls Tryz.prog 72 #[.pointer (some ⟨g, 0, none⟩), .int .i64 m.kind] W (WriterPost w0.heap.size g (l' ++ intL m.kind) W) := fun W hW => int_any w0.heap.size g l' m.kind W hW hik.1 hik.2 (by have := app_len HT1.out; simp only [List.length_append] at this; unfold intL at this; omega)
      have cU : ∀ W, WriterAt w0.heap.size g (l' ++ intL m.kind) W → Calls Tryz.prog 73 #[.pointer (some ⟨g, 0, none⟩), .int .u64 (IntKind.u64.wrap (m.texts.length : Int))] W (WriterPost w0.heap.size g (l' ++ intL m.kind ++ uintL m.texts.length) W) := fun W hW => uintW_any w0.heap.size g (l' ++ intL m.kind) m.texts.length W hW (by omega) (by have := app_len HT1.out; simp only [List.length_append] at this ⊢; omega)
      have hVd := hVa.drew
      have kkd : WKeep g V V.drew := WKeep.refl g V
      go_region_held3 (fun w' => w'.cell? ⟨gm, 0, none⟩ = some (.int .i64 m.kind) ∧ w'.cell? ⟨gm, 1, none⟩ = some (.slice B1 m.texts.length d1))
        (first
          | exact ⟨(KM.out _ kk2).1, (KM.out _ kk2).2.1⟩
          | exact ⟨(KM.out _ kk1).1, (KM.out _ kk1).2.1⟩
          | exact ⟨(KM.out _ kkd).1, (KM.out _ kkd).2.1⟩
          | go_keep)
        (first
          | (go_at_call 73; (refine (cU _ hh1).mono ?_); rintro e2 y2 ⟨rfl, hh2, hb2, hk2⟩; have kk2 := kk1.trans hk2)
          | (go_at_call 72; (refine (cI _ hVd).mono ?_); rintro e1 y1 ⟨rfl, hh1, hb1, hk1⟩; have kk1 := kkd.trans hk1))
      clear q0 q1 q2 q3
      obtain ⟨q0, q1, q2, q3⟩ := KM.out _ kk2
      have hBy := (hVB.drew.trans hb1).trans hb2
      clear cI cU hh1 kk1 hb1 hb2 hk1 hk2 hVd kkd hVa hVB
      go_wp2_with fail
      obtain ⟨R3, hR3⟩ : ∃ R3, (x.msgs.drop (i + 1)).flatMap msgL = R3 := ⟨_, rfl⟩
      obtain ⟨R2, hR2⟩ : ∃ R2, uintL m.data.length ++ (m.data.flatMap bytesL ++ R3) = R2 := ⟨_, rfl⟩
      obtain ⟨R1, hR1⟩ : ∃ R1, uintL m.ints.length ++ (m.ints.flatMap intL ++ R2) = R1 := ⟨_, rfl⟩
      have hI : l' ++ intL m.kind ++ uintL m.texts.length ++ ((m.texts.drop 0).flatMap bytesL ++ R1) = T := by
        have := HT1.out
        rw [hR3, hR2, hR1] at this
        simpa [List.append_assoc] using this
      have HI := Lib.hid hI
      have HR1 := Lib.hid hR1
      have HR2 := Lib.hid hR2
      have HR3 := Lib.hid hR3
      clear hI hR1 hR2 hR3 HT1 HT hwr hBr hKr
      go_loopg [52] m.texts.length (fun k s52 wq => ∃ (j : Nat) (l2 : List UInt8), k + j = m.texts.length ∧ s52 = .int .i64 (j : Int) ∧ Hid (l2 ++ ((m.texts.drop j).flatMap bytesL ++ R1) = T) ∧ WriterAt w0.heap.size g l2 wq ∧ Below w0.heap.size w wq ∧ WKeep g V wq)
      case atStart => exact ⟨0, _, by omega, rfl, HI, hh2, hBy, kk2⟩
      case round =>
        obtain ⟨j, l2, hj, rfl, HL, hw2, hB2, hK2⟩ := hrel
        by_cases hjl : j < m.texts.length
        · have hx : m.texts[j]? = some m.texts[j] := List.getElem?_eq_getElem hjl
          have hmem := List.mem_of_getElem? hx
          generalize m.texts[j] = t at *
          obtain ⟨b2, o2, rfl, u0⟩ := a1.at hx
          have v0 := ((hb0.trans hB2).cell (cell_lt u0)).trans u0
          have ht := z4 t hmem
          have hL2 : l2 ++ (bytesL t ++ ((m.texts.drop (j + 1)).flatMap bytesL ++ R1)) = T := by have := HL.out; rw [drop_flat bytesL hx, List.append_assoc] at this; exact this
          have hlen2 := app_len hL2
          simp only [List.length_append] at hlen2
          have HL2 := Lib.hid hL2
          have j0 : (0 : Int) ≤ (j : Int) := by omega
          have j1 : (j : Int) < (m.texts.length : Int) := by omega
          have cX := wtext_any w0.heap.size g l2 t _ hw2 (by omega) (by omega)
          clear hx hmem hL2 HL q0 q1 q2 q3
          go_wp2_with fail
          refine cX.mono ?_
          rintro e3 y3 ⟨rfl, hh3, hb3, hk3⟩
          go_wp2_with fail
          go_roundg (m.texts.length - (j + 1))
          case measure => omega
          case rel => exact ⟨j + 1, _, by omega, by go_num, Lib.hid (by have := HL2.out; simpa [List.append_assoc] using this), hh3, hB2.trans hb3, hK2.trans hk3⟩
        · clear q0 q1 q2 q3
          obtain ⟨q0, q1, q2, q3⟩ := KM.out _ hK2
          have hL2 : l2 ++ uintL m.ints.length ++ ((m.ints.drop 0).flatMap intL ++ R2) = T := by
            have := HL.out
            rw [drop_end bytesL (by omega), List.nil_append, ← HR1.out] at this
            simpa [List.append_assoc] using this
          have hlen2 := app_len hL2
          simp only [List.length_append] at hlen2
          have HL2 := Lib.hid hL2
          have cX := uint_any w0.heap.size g l2 m.ints.length _ hw2 (by omega) (by omega)
          clear hL2 HL
          go_wp2_with fail
          refine cX.mono ?_
          rintro e3 y3 ⟨rfl, hh3, hb3, hk3⟩
          have hB3 := hB2.trans hb3
          have hK3 := hK2.trans hk3
          clear q0 q1 q2 q3
          obtain ⟨q0, q1, q2, q3⟩ := KM.out _ hK3
          clear cX hb3 hk3 hw2 hB2 hK2 hh2 kk2 hBy
          go_wp2_with fail
          go_loopg [69] m.ints.length (fun k s52 wq => ∃ (j : Nat) (l2 : List UInt8), k + j = m.ints.length ∧ s52 = .int .i64 (j : Int) ∧ Hid (l2 ++ ((m.ints.drop j).flatMap intL ++ R2) = T) ∧ WriterAt w0.heap.size g l2 wq ∧ Below w0.heap.size w wq ∧ WKeep g V wq)
          case atStart => exact ⟨0, _, by omega, rfl, HL2, hh3, hB3, hK3⟩
          case round =>
            obtain ⟨j, l2, hj, rfl, HL, hw2, hB2, hK2⟩ := hrel
            by_cases hjl : j < m.ints.length
            · have hx : m.ints[j]? = some m.ints[j] := List.getElem?_eq_getElem hjl
              have hmem := List.mem_of_getElem? hx
              generalize m.ints[j] = t at *
              obtain ⟨b2, o2, rfl, u0⟩ := a2.at hx
              have v0 := ((hb0.trans hB2).cell (cell_lt u0)).trans u0
              have ht := hin t hmem
              have hL2 : l2 ++ (intL t ++ ((m.ints.drop (j + 1)).flatMap intL ++ R2)) = T := by have := HL.out; rw [drop_flat intL hx, List.append_assoc] at this; exact this
              have hlen2 := app_len hL2
              simp only [List.length_append] at hlen2
              have HL2 := Lib.hid hL2
              have j0 : (0 : Int) ≤ (j : Int) := by omega
              have j1 : (j : Int) < (m.ints.length : Int) := by omega
              have cX := int_any w0.heap.size g l2 t _ hw2 ht.1 ht.2 (by unfold intL at hlen2; omega)
              clear hx hmem hL2 HL q0 q1 q2 q3
              go_wp2_with fail
              refine cX.mono ?_
              rintro e3 y3 ⟨rfl, hh3, hb3, hk3⟩
              go_wp2_with fail
              go_roundg (m.ints.length - (j + 1))
              case measure => omega
              case rel => exact ⟨j + 1, _, by omega, by go_num, Lib.hid (by have := HL2.out; simpa [List.append_assoc, intL] using this), hh3, hB2.trans hb3, hK2.trans hk3⟩
            · clear q0 q1 q2 q3
              obtain ⟨q0, q1, q2, q3⟩ := KM.out _ hK2
              have hL2 : l2 ++ uintL m.data.length ++ ((m.data.drop 0).flatMap bytesL ++ R3) = T := by
                have := HL.out
                rw [drop_end intL (by omega), List.nil_append, ← HR2.out] at this
                simpa [List.append_assoc] using this
              have hlen2 := app_len hL2
              simp only [List.length_append] at hlen2
              have HL3 := Lib.hid hL2
              have cX := uint_any w0.heap.size g l2 m.data.length _ hw2 (by omega) (by omega)
              clear hL2 HL
              go_wp2_with fail
              refine cX.mono ?_
              rintro e4 y4 ⟨rfl, hh4, hb4, hk4⟩
              have hB4 := hB2.trans hb4
              have hK4 := hK2.trans hk4
              clear q0 q1 q2 q3
              obtain ⟨q0, q1, q2, q3⟩ := KM.out _ hK4
              clear cX hb4 hk4 hw2 hB2 hK2 hh3 hB3 hK3
              go_wp2_with fail
              go_loopg [86] m.data.length (fun k s52 wq => ∃ (j : Nat) (l2 : List UInt8), k + j = m.data.length ∧ s52 = .int .i64 (j : Int) ∧ Hid (l2 ++ ((m.data.drop j).flatMap bytesL ++ R3) = T) ∧ WriterAt w0.heap.size g l2 wq ∧ Below w0.heap.size w wq ∧ WKeep g V wq)
              case atStart => exact ⟨0, _, by omega, rfl, HL3, hh4, hB4, hK4⟩
              case round =>
                obtain ⟨j, l2, hj, rfl, HL, hw2, hB2, hK2⟩ := hrel
                by_cases hjl : j < m.data.length
                · have hx : m.data[j]? = some m.data[j] := List.getElem?_eq_getElem hjl
                  have hmem := List.mem_of_getElem? hx
                  generalize m.data[j] = t at *
                  obtain ⟨b2, o2, Ad, cd, rfl, u0, hbt⟩ := a3.at hx
                  have v0 := ((hb0.trans hB2).cell (cell_lt u0)).trans u0
                  have ht := z5 t hmem
                  have hL2 : l2 ++ (bytesL t ++ ((m.data.drop (j + 1)).flatMap bytesL ++ R3)) = T := by have := HL.out; rw [drop_flat bytesL hx, List.append_assoc] at this; exact this
                  have hlen2 := app_len hL2
                  simp only [List.length_append] at hlen2
                  have HL2 := Lib.hid hL2
                  have j0 : (0 : Int) ≤ (j : Int) := by omega
                  have j1 : (j : Int) < (m.data.length : Int) := by omega
                  have cX : Calls Tryz.prog 36 #[.pointer (some ⟨g, 0, none⟩), .slice Ad t.length cd] wr (WriterPost w0.heap.size g (l2 ++ bytesL t) wr) := bytes_any w0.heap.size g l2 t (.slice Ad t.length cd) _ hw2 (fun W' hW' _ => hbt.keep ((hb0.trans hB2).trans hW')) (by omega) (by unfold bytesL at hlen2; simp only [List.length_append] at hlen2; omega)
                  clear hx hmem hL2 HL q0 q1 q2 q3
                  go_wp2_with fail
                  refine cX.mono ?_
                  rintro e3 y3 ⟨rfl, hh3, hb3, hk3⟩
                  go_wp2_with fail
                  go_roundg (m.data.length - (j + 1))
                  case measure => omega
                  case rel => exact ⟨j + 1, _, by omega, by go_num, Lib.hid (by have := HL2.out; simpa [List.append_assoc] using this), hh3, hB2.trans hb3, hK2.trans hk3⟩
                · clear q0 q1 q2 q3
                  obtain ⟨q0, q1, q2, q3⟩ := KM.out _ hK2
                  have hL2 : l2 ++ (x.msgs.drop (i + 1)).flatMap msgL = T := by
                    have := HL.out
                    rw [drop_end bytesL (by omega), List.nil_append, ← HR3.out] at this
                    exact this
                  have HL4 := Lib.hid hL2
                  clear hL2 HL
                  go_wp2_with fail
                  go_roundg (x.msgs.length - (i + 1))
                  case measure => omega
                  case rel => exact ⟨i + 1, _, by omega, by go_num, HL4, hw2, hB2, hVK.trans hK2⟩
    · have hT2 : l' = T := by have := HT.out; rw [drop_end msgL (by omega), List.append_nil] at this; exact this
      subst hT2
      go_wp2_with fail
      go_ret
      exact ⟨rfl, hwr, hBr, KW.trans hKr⟩
end Go.Proofs.YteajgnoimbdkbaaGreatDoor

/- txs.Encode, txs.Bytes: a transaction as bytes; what is signed. -/
import Derived.Test.YteajgnoimbdkbaaGreatDoorPut
namespace Go.Proofs.YteajgnoimbdkbaaGreatDoor
open Go.RowKit

/-- A transaction as bytes, and the error's number. -/
def encF (x : TxD) : List UInt8 × Int := if txN x ≠ 0 then ([], txN x) else if 65536 < (encL x).length then ([], 2) else (encL x, 0)
def EncPost (r : List UInt8 × Int) (w : World) (e : Ending) (w' : World) : Prop := ∃ A c ev, e = .returned (.tuple #[.slice A r.1.length c, ev]) ∧ Bts w' (.slice A r.1.length c) r.1 ∧ IsErr w' ev r.2 ∧ Below w.heap.size w w'
def BtsPost (b : List UInt8) (w : World) (e : Ending) (w' : World) : Prop := ∃ A c, e = .returned (.slice A b.length c) ∧ Bts w' (.slice A b.length c) b ∧ Below w.heap.size w w'

theorem SixAt {w : World} {a b c d e f : Value} {t : TypeId} {W : World} (hb : Below (w.heap.size + 1) (w.alloc (.cells #[a, b, c, d, e, f] t)) W) :
    W.cell? ⟨w.heap.size, 0, none⟩ = some a ∧ W.cell? ⟨w.heap.size, 1, none⟩ = some b ∧ W.cell? ⟨w.heap.size, 2, none⟩ = some c ∧ W.cell? ⟨w.heap.size, 3, none⟩ = some d ∧ W.cell? ⟨w.heap.size, 4, none⟩ = some e ∧ W.cell? ⟨w.heap.size, 5, none⟩ = some f := Six.cells hb

set_option maxRecDepth 100000 in
set_option maxHeartbeats 4000000 in
theorem encode_any (v : Value) (x : TxD) (w : World) (h : TxAt w v x) (hs : TxSmall x) (hi : TxInts x) (hlen : (encL x).length ≤ 140737488355000) (hT : U8Tabs w) (hM : MaxLenAt w) :
    Calls Tryz.prog 12 #[v] w (EncPost (encF x) w) := by
  have hx0 := h
  obtain ⟨ms, sg, rfl, h1, h2⟩ := h
  obtain ⟨A1, c1, rfl⟩ := h1.form
  obtain ⟨A2, c2, rfl⟩ := h2.form
  unfold txV at *
  have hb1 := below_alloc w (.cells #[.string (strOf x.account), .int .i64 x.seq, .string (strOf x.denom), .int .i64 x.amount, .slice A1 x.msgs.length c1, .slice A2 x.sign.length c2] 29)
  have cK := fun W hW => txCheck_any _ x W (hx0.keep hW) hs (Utf8Tabs_below hT hW) (hM.keep hW)
  unfold ErrPost at cK
  have hle : (encL x).length = (putL x).length + (bytesL x.sign).length := by simp [encL]
  by_cases h0 : txN x = 0
  · rw [h0] at cK
    have cN := fun W => new_any W
    have cP : ∀ (W0 W : World) (g : Nat), Below w.heap.size w W0 → Below W0.heap.size W0 W → WriterAt W0.heap.size g [] W → Calls Tryz.prog 34 #[.pointer (some ⟨g, 0, none⟩), .agg #[.string (strOf x.account), .int .i64 x.seq, .string (strOf x.denom), .int .i64 x.amount, .slice A1 x.msgs.length c1, .slice A2 x.sign.length c2]] W (WriterPost W0.heap.size g (putL x) W) := fun W0 W g hW0 hW hA => by
      have := put_any W0 W _ x g [] (hx0.keep hW0) hW hA hs hi (by simp only [List.length_nil]; omega)
      simpa using this
    have cB : ∀ (W0 W : World) (g : Nat), Below w.heap.size w W0 → Below W0.heap.size W0 W → WriterAt W0.heap.size g (putL x) W → Calls Tryz.prog 36 #[.pointer (some ⟨g, 0, none⟩), .slice A2 x.sign.length c2] W (WriterPost W0.heap.size g (encL x) W) := fun W0 W g hW0 hW hA => by
      have := bytes_any W0.heap.size g (putL x) x.sign (.slice A2 x.sign.length c2) W hA (fun W' hW' _ => h2.keep (hW0.trans ((hW.trans hW').mono hW0.size))) (by have := hs.2.2.2.1; omega) (by unfold bytesL at hle; simp only [List.length_append] at hle; omega)
      exact this
    have cD : ∀ (B W g) , WriterAt B g (encL x) W → Calls Tryz.prog 37 #[.pointer (some ⟨g, 0, none⟩)] W _ := fun B W g hA => done_any B g (encL x) W hA (by omega)
    have HL := Lib.hid hle
    have H0 := Lib.hid h0
    clear hle hx0 h1 h2 hM hT hi hs h0
    go_enter Tryz.func12, Tryz.ntmps12
    go_wp2_with fail
    refine (cK _ hb1).mono ?_
    rintro e w2 ⟨ev, rfl, hE, hb2⟩
    obtain rfl := hE.zero
    have q2 := hb1.trans (hb2.mono hb1.size)
    have KB : ∀ W, Below w2.heap.size w2 W → _ := fun W hW => Six.cells (w := w) (w2 := W) (by have := hb2.trans (hW.mono hb2.size); simpa using this)
    obtain ⟨k0, k1, k2, k3, k4, k5⟩ := KB _ (Below.refl _ _)
    have hd := (Below.refl w2.heap.size w2).drew
    have q2d := q2.drew
    go_wp2_with fail
    go_region_held3 (fun w' => w'.cell? ⟨w.heap.size, 0, none⟩ = some (.string (strOf x.account)) ∧ w'.cell? ⟨w.heap.size, 1, none⟩ = some (.int .i64 x.seq) ∧ w'.cell? ⟨w.heap.size, 2, none⟩ = some (.string (strOf x.denom)) ∧ w'.cell? ⟨w.heap.size, 3, none⟩ = some (.int .i64 x.amount) ∧ w'.cell? ⟨w.heap.size, 4, none⟩ = some (.slice A1 x.msgs.length c1) ∧ w'.cell? ⟨w.heap.size, 5, none⟩ = some (.slice A2 x.sign.length c2))
      (first
        | exact KB _ kk4
        | exact KB _ kk3
        | exact KB _ kk2
        | exact KB _ kk1
        | exact KB _ hd
        | go_keep)
      (first
        | (go_at_call 37; (refine (cD _ _ _ hh3).mono ?_); rintro e4 y4 ⟨A4, c4, rfl, hh4, hbb4⟩; have kk4 := kk3.trans (hbb4.mono kk3.size))
        | (go_at_call 36; (refine (cB _ _ _ q2d (hbb1.trans hbb2) hh2).mono ?_); rintro e3 y3 ⟨rfl, hh3, hbb3, -⟩; have kk3 := kk2.trans hbb3)
        | (go_at_call 34; (refine (cP _ _ _ q2d hbb1 hh1).mono ?_); rintro e2 y2 ⟨rfl, hh2, hbb2, -⟩; have kk2 := kk1.trans hbb2)
        | (go_at_call 35; (refine (cN _).mono ?_); rintro e1 y1 ⟨rfl, hh1, hbb1⟩; have kk1 := hd.trans hbb1))
    have q4 := q2.trans (kk4.mono q2.size)
    have HE : Hid (encF x = if 65536 < (encL x).length then ([], 2) else (encL x, 0)) := Lib.hid (by rw [encF, if_neg (by rw [H0.out]; simp)])
    clear cN cP cB cD cK kk1 kk2 kk3 hbb1 hbb2 hbb4 hh1 hh2 hh3 k0 k1 k2 k3 k4 k5 HL
    generalize encL x = L at *
    by_cases hb : 65536 < L.length
    · have q : (65536 : Int) < (L.length : Int) := by omega
      have HR : Hid (encF x = ([], 2)) := Lib.hid (by rw [HE.out, if_pos hb])
      clear hb
      go_wp2_with fail
      refine (txFault_any _ _ _).mono ?_
      rintro e w3 ⟨rfl, rfl⟩
      go_wp2_with fail
      go_ret2
      exact ⟨none, 0, _, by rw [HR.out]; rfl, by rw [HR.out]; exact Bts.nil_ _, by rw [HR.out]; exact IsErr.fault (by decide) rfl rfl, q4.alloc q4.size _⟩
    · have q : ¬((65536 : Int) < (L.length : Int)) := by omega
      have HR : Hid (encF x = (L, 0)) := Lib.hid (by rw [HE.out, if_neg hb])
      clear hb
      go_wp2_with fail
      go_ret2
      exact ⟨A4, c4, _, by rw [HR.out]; rfl, by rw [HR.out]; exact hh4, by rw [HR.out]; exact IsErr.nil_ _, q4⟩
  · have HR : Hid (encF x = ([], txN x)) := Lib.hid (by rw [encF, if_pos h0])
    clear hx0 h1 h2 hM hT hi hs hle hlen
    go_enter Tryz.func12, Tryz.ntmps12
    go_wp2_with fail
    refine (cK _ hb1).mono ?_
    rintro e w2 ⟨ev, rfl, hE, hb2⟩
    obtain ⟨t, y, rfl⟩ := hE.iface h0
    go_wp2_with fail
    go_ret2
    exact ⟨none, 0, _, by rw [HR.out]; rfl, by rw [HR.out]; exact Bts.nil_ _, by rw [HR.out]; exact hE, hb1.trans (hb2.mono hb1.size)⟩

set_option maxRecDepth 100000 in
set_option maxHeartbeats 4000000 in
theorem txBytes_any (v : Value) (x : TxD) (ch : ByteArray) (w : World) (h : TxAt w v x) (hs : TxSmall x) (hi : TxInts x) (hlen : (signedL ch.data.toList x).length ≤ 140737488355000) :
    Calls Tryz.prog 16 #[.string ch, v] w (BtsPost (signedL ch.data.toList x) w) := by
  have hx0 := h
  obtain ⟨ms, sg, rfl, h1, h2⟩ := h
  obtain ⟨A1, c1, rfl⟩ := h1.form
  obtain ⟨A2, c2, rfl⟩ := h2.form
  unfold txV at *
  have hb1 := below_alloc w (.cells #[.string (strOf x.account), .int .i64 x.seq, .string (strOf x.denom), .int .i64 x.amount, .slice A1 x.msgs.length c1, .slice A2 x.sign.length c2] 29)
  have hle : (signedL ch.data.toList x).length = (bytesL [116, 120]).length + ((bytesL ch.data.toList).length + (putL x).length) := by simp [signedL]
  have hcl : ch.data.toList.length = ch.size := by rw [Array.length_toList, ByteArray.size_data]
  have hcb : (bytesL ch.data.toList).length = (uintL ch.size).length + ch.size := by simp only [bytesL, List.length_append, hcl]
  have cN := fun W => new_any W
  have cT1 : ∀ (B W g), WriterAt B g [] W → Calls Tryz.prog 42 #[.pointer (some ⟨g, 0, none⟩), .string ⟨#[116, 120]⟩] W (WriterPost B g (bytesL [116, 120]) W) := fun B W g hA => wtext_any B g [] [116, 120] W hA (by simp) (by simp only [List.length_nil]; omega)
  have cT2 : ∀ (B W g), WriterAt B g (bytesL [116, 120]) W → Calls Tryz.prog 42 #[.pointer (some ⟨g, 0, none⟩), .string ch] W (WriterPost B g (bytesL [116, 120] ++ bytesL ch.data.toList) W) := fun B W g hA => wtextS_any B g _ ch W hA (by omega) (by omega)
  have cP : ∀ (W0 W : World) (g : Nat), Below w.heap.size w W0 → Below W0.heap.size W0 W → WriterAt W0.heap.size g (bytesL [116, 120] ++ bytesL ch.data.toList) W → Calls Tryz.prog 34 #[.pointer (some ⟨g, 0, none⟩), .agg #[.string (strOf x.account), .int .i64 x.seq, .string (strOf x.denom), .int .i64 x.amount, .slice A1 x.msgs.length c1, .slice A2 x.sign.length c2]] W (WriterPost W0.heap.size g (signedL ch.data.toList x) W) := fun W0 W g hW0 hW hA => by
    have := put_any W0 W _ x g _ (hx0.keep hW0) hW hA hs hi (by rw [List.length_append]; omega)
    rw [List.append_assoc] at this
    exact this
  have cD : ∀ (B W g), WriterAt B g (signedL ch.data.toList x) W → Calls Tryz.prog 37 #[.pointer (some ⟨g, 0, none⟩)] W _ := fun B W g hA => done_any B g (signedL ch.data.toList x) W hA (by omega)
  have KB : ∀ W, Below (w.heap.size + 1) (w.alloc (.cells #[.string (strOf x.account), .int .i64 x.seq, .string (strOf x.denom), .int .i64 x.amount, .slice A1 x.msgs.length c1, .slice A2 x.sign.length c2] 29)) W → _ := fun W hW => Six.cells (w := w) (w2 := W) hW
  have hd : Below (w.heap.size + 1) (w.alloc (.cells #[.string (strOf x.account), .int .i64 x.seq, .string (strOf x.denom), .int .i64 x.amount, .slice A1 x.msgs.length c1, .slice A2 x.sign.length c2] 29)) (w.alloc (.cells #[.string (strOf x.account), .int .i64 x.seq, .string (strOf x.denom), .int .i64 x.amount, .slice A1 x.msgs.length c1, .slice A2 x.sign.length c2] 29)).drew := (Below.refl _ _).drew
  have hz : w.heap.size + 1 ≤ (w.alloc (.cells #[.string (strOf x.account), .int .i64 x.seq, .string (strOf x.denom), .int .i64 x.amount, .slice A1 x.msgs.length c1, .slice A2 x.sign.length c2] 29)).drew.heap.size := by show _ ≤ (w.alloc _).heap.size; simp
  have q1 := hb1.drew
  obtain ⟨k0, k1, k2, k3, k4, k5⟩ := KB _ hd
  clear hle hx0 h1 h2 hi hs hcl hcb
  generalize signedL ch.data.toList x = S at *
  go_enter Tryz.func16, Tryz.ntmps16
  go_wp2_with fail
  generalize w.alloc (.cells #[.string (strOf x.account), .int .i64 x.seq, .string (strOf x.denom), .int .i64 x.amount, .slice A1 x.msgs.length c1, .slice A2 x.sign.length c2] 29) = V at *
  go_region_held3 (fun w' => w'.cell? ⟨w.heap.size, 0, none⟩ = some (.string (strOf x.account)) ∧ w'.cell? ⟨w.heap.size, 1, none⟩ = some (.int .i64 x.seq) ∧ w'.cell? ⟨w.heap.size, 2, none⟩ = some (.string (strOf x.denom)) ∧ w'.cell? ⟨w.heap.size, 3, none⟩ = some (.int .i64 x.amount) ∧ w'.cell? ⟨w.heap.size, 4, none⟩ = some (.slice A1 x.msgs.length c1) ∧ w'.cell? ⟨w.heap.size, 5, none⟩ = some (.slice A2 x.sign.length c2))
    (first
      | exact KB _ kk5
      | exact KB _ kk4
      | exact KB _ kk3
      | exact KB _ kk2
      | exact KB _ kk1
      | exact KB _ hd
      | go_keep)
    (first
      | (go_at_call 37; (refine (cD _ _ _ hh4).mono ?_); rintro e5 y5 ⟨A5, c5, rfl, hh5, hbb5⟩; have kk5 := kk4.trans (hbb5.mono (Nat.le_trans hz kk4.size)))
      | (go_at_call 34; (refine (cP _ _ _ q1 ((hbb1.trans hbb2).trans hbb3) hh3).mono ?_); rintro e4 y4 ⟨rfl, hh4, hbb4, -⟩; have kk4 := kk3.trans (hbb4.mono hz))
      | (go_at_call 42; (refine (cT2 _ _ _ hh2).mono ?_); rintro e3 y3 ⟨rfl, hh3, hbb3, -⟩; have kk3 := kk2.trans (hbb3.mono hz))
      | (go_at_call 42; (refine (cT1 _ _ _ hh1).mono ?_); rintro e2 y2 ⟨rfl, hh2, hbb2, -⟩; have kk2 := kk1.trans (hbb2.mono hz))
      | (go_at_call 35; (refine (cN _).mono ?_); rintro e1 y1 ⟨rfl, hh1, hbb1⟩; have kk1 := hd.trans (hbb1.mono hz)))
  go_wp2_with fail
  go_ret
  exact ⟨A5, c5, rfl, hh5, ((((q1.trans (hbb1.mono q1.size)).trans (hbb2.mono q1.size)).trans (hbb3.mono q1.size)).trans (hbb4.mono q1.size)).trans (hbb5.mono (Nat.le_trans (by omega) (Nat.le_trans hz kk4.size)))⟩
end Go.Proofs.YteajgnoimbdkbaaGreatDoor

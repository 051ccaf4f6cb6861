/- A transaction as bytes, and the reader that takes it off again: plain laws. -/
import Derived.Test.YteajgnoimbdkbaaGreatDoorPackLaw
namespace Go.Proofs.YteajgnoimbdkbaaGreatDoor

theorem uintL_inj {n m : Nat} {r s : List UInt8} (hn : n < 18446744073709551616) (hm : m < 18446744073709551616) (h : uintL n ++ r = uintL m ++ s) : n = m ∧ r = s := by
  have h1 := num_back n r hn
  rw [h, num_back m s hm] at h1
  have e : m = n := by simpa using congrArg Prod.fst h1
  subst e
  exact ⟨rfl, List.append_cancel_left h⟩
/-- Bytes with their number ahead. -/
def bytesL (b : List UInt8) : List UInt8 := uintL b.length ++ b
def intL (n : Int) : List UInt8 := uintL (zigF n)
theorem bytesL_inj {a b r s : List UInt8} (ha : a.length < 18446744073709551616) (hb : b.length < 18446744073709551616) (h : bytesL a ++ r = bytesL b ++ s) : a = b ∧ r = s := by
  unfold bytesL at h
  rw [List.append_assoc, List.append_assoc] at h
  obtain ⟨h1, h2⟩ := uintL_inj ha hb h
  exact List.append_inj h2 h1
theorem intL_inj {a b : Int} {r s : List UInt8} (ha : -9223372036854775808 ≤ a ∧ a ≤ 9223372036854775807) (hb : -9223372036854775808 ≤ b ∧ b ≤ 9223372036854775807) (h : intL a ++ r = intL b ++ s) : a = b ∧ r = s := by
  obtain ⟨h1, h2⟩ := uintL_inj (zigF_lt a ha.1 ha.2) (zigF_lt b hb.1 hb.2) h
  exact ⟨by rw [← zag_zig a, h1, zag_zig], h2⟩

/-- A message and a transaction as data. -/
structure MsgD where
  kind : Int
  texts : List (List UInt8)
  ints : List Int
  data : List (List UInt8)
structure TxD where
  account : List UInt8
  seq : Int
  denom : List UInt8
  amount : Int
  msgs : List MsgD
  sign : List UInt8
def msgL (m : MsgD) : List UInt8 := intL m.kind ++ (uintL m.texts.length ++ (m.texts.flatMap bytesL ++ (uintL m.ints.length ++ (m.ints.flatMap intL ++ (uintL m.data.length ++ m.data.flatMap bytesL)))))
/-- All but the signature. -/
def putL (x : TxD) : List UInt8 := bytesL x.account ++ (intL x.seq ++ (bytesL x.denom ++ (intL x.amount ++ (uintL x.msgs.length ++ x.msgs.flatMap msgL))))
/-- What is signed for a chain. -/
def signedL (chain : List UInt8) (x : TxD) : List UInt8 := bytesL [116, 120] ++ (bytesL chain ++ putL x)
def encL (x : TxD) : List UInt8 := putL x ++ bytesL x.sign

theorem signed_chain {c d : List UInt8} {x : TxD} (hc : c.length < 18446744073709551616) (hd : d.length < 18446744073709551616) : signedL c x = signedL d x ↔ c = d := by
  constructor
  · intro h
    exact (bytesL_inj hc hd (List.append_cancel_left h)).1
  · rintro rfl; rfl
theorem signed_seq {c : List UInt8} {x : TxD} {n : Int} (hx : -9223372036854775808 ≤ x.seq ∧ x.seq ≤ 9223372036854775807) (hn : -9223372036854775808 ≤ n ∧ n ≤ 9223372036854775807) (h : signedL c x = signedL c { x with seq := n }) : x.seq = n := by
  have h1 := List.append_cancel_left (List.append_cancel_left (List.append_cancel_left h))
  exact (intL_inj hx hn h1).1
theorem signed_amount {c : List UInt8} {x : TxD} {n : Int} (hx : -9223372036854775808 ≤ x.amount ∧ x.amount ≤ 9223372036854775807) (hn : -9223372036854775808 ≤ n ∧ n ≤ 9223372036854775807) (h : signedL c x = signedL c { x with amount := n }) : x.amount = n := by
  have h1 := List.append_cancel_left (List.append_cancel_left (List.append_cancel_left (List.append_cancel_left (List.append_cancel_left h))))
  exact (intL_inj hx hn h1).1
theorem signed_sign {c : List UInt8} {x : TxD} {s : List UInt8} : signedL c { x with sign := s } = signedL c x := rfl

/-- A reader: the bytes that are left, and the first error's number. -/
structure Rd where
  b : List UInt8
  err : Int
def rdUint (r : Rd) (most : Nat) : Nat × Rd :=
  if r.err ≠ 0 then (0, r) else if (numF r.b).2.2 ≠ 0 then (0, ⟨r.b, (numF r.b).2.2⟩) else if most < (numF r.b).1 then (0, ⟨r.b, 4⟩) else ((numF r.b).1, ⟨r.b.drop (numF r.b).2.1, 0⟩)
def rdInt (r : Rd) : Int × Rd := (zagF (rdUint r 18446744073709551615).1, (rdUint r 18446744073709551615).2)
def rdCount (r : Rd) (most : Nat) : Nat × Rd :=
  if r.err ≠ 0 then (0, r) else if (rdUint r most).2.err ≠ 0 then (0, (rdUint r most).2) else if (rdUint r most).2.b.length < (rdUint r most).1 then (0, ⟨r.b, 2⟩) else rdUint r most
def rdBytes (r : Rd) (most : Nat) : List UInt8 × Rd :=
  if r.err ≠ 0 then ([], r) else if (rdUint r 18446744073709551615).2.err ≠ 0 then ([], (rdUint r 18446744073709551615).2)
  else if most < (rdUint r 18446744073709551615).1 then ([], ⟨r.b, 2⟩) else if (rdUint r 18446744073709551615).2.b.length < (rdUint r 18446744073709551615).1 then ([], ⟨r.b, 12⟩)
  else ((rdUint r 18446744073709551615).2.b.take (rdUint r 18446744073709551615).1, ⟨(rdUint r 18446744073709551615).2.b.drop (rdUint r 18446744073709551615).1, 0⟩)
/-- So many things, one behind the other. -/
def rdMany {α : Type} (f : Rd → α × Rd) : Nat → Rd → List α × Rd
  | 0, r => ([], r)
  | n + 1, r => ((f r).1 :: (rdMany f n (f r).2).1, (rdMany f n (f r).2).2)

theorem rdUint_back {n most : Nat} {r : List UInt8} (hn : n < 18446744073709551616) (hm : n ≤ most) : rdUint ⟨uintL n ++ r, 0⟩ most = (n, ⟨r, 0⟩) := by
  unfold rdUint
  simp only [num_back n r hn]
  rw [if_neg (by simp), if_neg (by simp), if_neg (by omega)]
  simp
theorem rdInt_back {n : Int} {r : List UInt8} (h0 : -9223372036854775808 ≤ n) (h1 : n ≤ 9223372036854775807) : rdInt ⟨intL n ++ r, 0⟩ = (n, ⟨r, 0⟩) := by
  have hz := zigF_lt n h0 h1
  unfold rdInt intL
  rw [rdUint_back hz (by omega), zag_zig]
theorem rdCount_back {n most : Nat} {r : List UInt8} (hn : n < 18446744073709551616) (hm : n ≤ most) (hr : n ≤ r.length) : rdCount ⟨uintL n ++ r, 0⟩ most = (n, ⟨r, 0⟩) := by
  unfold rdCount
  rw [rdUint_back hn hm, if_neg (by simp), if_neg (by simp), if_neg (by simp; omega)]
theorem rdBytes_back {b r : List UInt8} {most : Nat} (hn : b.length < 18446744073709551616) (hm : b.length ≤ most) : rdBytes ⟨bytesL b ++ r, 0⟩ most = (b, ⟨r, 0⟩) := by
  unfold rdBytes bytesL
  rw [List.append_assoc, rdUint_back hn (by omega), if_neg (by simp), if_neg (by simp), if_neg (by simp; omega), if_neg (by simp)]
  simp
theorem rdMany_back {α : Type} {f : Rd → α × Rd} {g : α → List UInt8} : ∀ (l : List α) (r : List UInt8), (∀ x ∈ l, ∀ s, f ⟨g x ++ s, 0⟩ = (x, ⟨s, 0⟩)) → rdMany f l.length ⟨l.flatMap g ++ r, 0⟩ = (l, ⟨r, 0⟩)
  | [], r, _ => rfl
  | x :: l, r, h => by
    have h1 := h x (List.mem_cons_self ..) (l.flatMap g ++ r)
    have h2 := rdMany_back l r (fun y hy => h y (List.mem_cons_of_mem _ hy))
    simp only [List.flatMap_cons, List.length_cons, List.append_assoc, rdMany]
    rw [h1, h2]
theorem many_long {α : Type} (g : α → List UInt8) (hg : ∀ x, 0 < (g x).length) : ∀ (l : List α) (r : List UInt8), l.length ≤ (l.flatMap g ++ r).length
  | [], _ => Nat.zero_le _
  | x :: l, r => by
    have h1 := many_long g hg l r
    have h2 := hg x
    simp only [List.flatMap_cons, List.length_cons, List.length_append] at h1 ⊢
    omega
theorem bytesL_pos (b : List UInt8) : 0 < (bytesL b).length := by have := uintL_pos b.length; simp only [bytesL, List.length_append]; omega
theorem intL_pos (n : Int) : 0 < (intL n).length := uintL_pos _
theorem msgL_pos (m : MsgD) : 0 < (msgL m).length := by have := intL_pos m.kind; simp only [msgL, List.length_append]; omega

/-- A message taken off. -/
def rdMsg (r : Rd) : MsgD × Rd :=
  let k := rdInt r
  let t := rdCount k.2 256
  let ts := rdMany (fun r => rdBytes r 256) t.1 t.2
  let i := rdCount ts.2 256
  let is := rdMany rdInt i.1 i.2
  let d := rdCount is.2 256
  let ds := rdMany (fun r => rdBytes r 16384) d.1 d.2
  (⟨k.1, ts.1, is.1, ds.1⟩, ds.2)
/-- A message whose parts are within the bounds. -/
def MsgOk (m : MsgD) : Prop := (-9223372036854775808 ≤ m.kind ∧ m.kind ≤ 9223372036854775807) ∧ m.texts.length ≤ 256 ∧ m.ints.length ≤ 256 ∧ m.data.length ≤ 256 ∧ (∀ t ∈ m.texts, t.length ≤ 256) ∧ (∀ n ∈ m.ints, -9223372036854775808 ≤ n ∧ n ≤ 9223372036854775807) ∧ ∀ d ∈ m.data, d.length ≤ 16384
theorem rdMsg_back {m : MsgD} (h : MsgOk m) (r : List UInt8) : rdMsg ⟨msgL m ++ r, 0⟩ = (m, ⟨r, 0⟩) := by
  obtain ⟨⟨k0, k1⟩, h1, h2, h3, h4, h5, h6⟩ := h
  unfold rdMsg msgL
  simp only [List.append_assoc]
  rw [rdInt_back k0 k1]
  simp only
  rw [rdCount_back (by omega) h1 (many_long bytesL bytesL_pos _ _)]
  simp only
  rw [rdMany_back (g := bytesL) m.texts _ (fun x hx s => rdBytes_back (by have := h4 x hx; omega) (h4 x hx))]
  simp only
  rw [rdCount_back (by omega) h2 (many_long intL intL_pos _ _)]
  simp only
  rw [rdMany_back (g := intL) m.ints _ (fun x hx s => rdInt_back (h5 x hx).1 (h5 x hx).2)]
  simp only
  rw [rdCount_back (by omega) h3 (many_long bytesL bytesL_pos _ _)]
  simp only
  rw [rdMany_back (g := bytesL) m.data _ (fun x hx s => rdBytes_back (by have := h6 x hx; omega) (h6 x hx))]
/-- A transaction taken off. -/
def rdTx (b : List UInt8) : TxD × Rd :=
  let a := rdBytes ⟨b, 0⟩ 256
  let s := rdInt a.2
  let d := rdBytes s.2 256
  let f := rdInt d.2
  let n := rdCount f.2 8
  let ms := rdMany rdMsg n.1 n.2
  let g := rdBytes ms.2 8192
  (⟨a.1, s.1, d.1, f.1, ms.1, g.1⟩, g.2)
theorem rdTx_back {x : TxD} (ha : x.account.length ≤ 256) (hs : -9223372036854775808 ≤ x.seq ∧ x.seq ≤ 9223372036854775807) (hd : x.denom.length ≤ 256) (hf : -9223372036854775808 ≤ x.amount ∧ x.amount ≤ 9223372036854775807)
    (hm : x.msgs.length ≤ 8) (hms : ∀ m ∈ x.msgs, MsgOk m) (hg : x.sign.length ≤ 8192) : rdTx (encL x) = (x, ⟨[], 0⟩) := by
  have e : encL x = bytesL x.account ++ (intL x.seq ++ (bytesL x.denom ++ (intL x.amount ++ (uintL x.msgs.length ++ (x.msgs.flatMap msgL ++ (bytesL x.sign ++ [])))))) := by simp [encL, putL]
  unfold rdTx
  rw [e, rdBytes_back (by omega) ha]
  simp only
  rw [rdInt_back hs.1 hs.2]
  simp only
  rw [rdBytes_back (by omega) hd]
  simp only
  rw [rdInt_back hf.1 hf.2]
  simp only
  rw [rdCount_back (by omega) hm (many_long msgL msgL_pos _ _)]
  simp only
  rw [rdMany_back (g := msgL) x.msgs _ (fun m h s => rdMsg_back (hms m h) s)]
  simp only
  rw [rdBytes_back (by omega) hg]
end Go.Proofs.YteajgnoimbdkbaaGreatDoor

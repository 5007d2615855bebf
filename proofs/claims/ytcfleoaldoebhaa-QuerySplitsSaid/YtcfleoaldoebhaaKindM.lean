/-
  Package kind in plain Lean: what its functions compute. No conditions.
-/
import Derived.Test.YtcfleoaldoebhaaData
namespace Go.Proofs.Ytcfleoaldoebhaa
set_option linter.unusedSimpArgs false
set_option linter.unusedVariables false

def lowc (c : UInt8) : Bool := decide (97 ≤ c) && decide (c ≤ 122)
def digc (c : UInt8) : Bool := decide (48 ≤ c) && decide (c ≤ 57)
def chOk (l : List UInt8) (j : Nat) : Bool := lowc (l.getD j 0) || (decide (0 < j) && digc (l.getD j 0))
def nameOk (l : List UInt8) : Bool := decide (0 < l.length) && decide (l.length ≤ 16) && (List.range l.length).all (chOk l)
def fieldErr (f : Field) : Int := if nameOk f.name && decide (1 ≤ f.bits) && decide (f.bits ≤ 32) && decide (-4294967296 ≤ f.low) && decide (f.low ≤ 4294967296) then 0 else 3
def fieldsErr : List Field → List Field → Int
  | _, [] => 0
  | pre, f :: fs => if fieldErr f ≠ 0 then fieldErr f else if pre.any (fun o => o.name == f.name) then 5 else fieldsErr (pre ++ [f]) fs
def oneErr (k : Kind) : Int := if nameOk k.name then (if 8 < k.fields.length then 2 else fieldsErr [] k.fields) else 3

theorem chOk_iff (l : List UInt8) (k : Nat) (hk : k < l.length) : chOk l k = true ↔ ((97 : Int) ≤ ((⟨l.toArray⟩ : ByteArray)[k]'hk).toNat ∧ (((⟨l.toArray⟩ : ByteArray)[k]'hk).toNat : Int) ≤ 122) ∨ (0 < k ∧ (48 : Int) ≤ ((⟨l.toArray⟩ : ByteArray)[k]'hk).toNat ∧ (((⟨l.toArray⟩ : ByteArray)[k]'hk).toNat : Int) ≤ 57) := by
  have e : (⟨l.toArray⟩ : ByteArray)[k]'hk = l[k] := rfl
  rw [e]
  simp only [chOk, lowc, digc, List.getD_eq_getElem?_getD, List.getElem?_eq_getElem hk, Option.getD_some, Bool.or_eq_true, Bool.and_eq_true, decide_eq_true_eq, UInt8.le_iff_toNat_le]
  have h1 : (97 : UInt8).toNat = 97 := rfl
  have h2 : (122 : UInt8).toNat = 122 := rfl
  have h3 : (48 : UInt8).toNat = 48 := rfl
  have h4 : (57 : UInt8).toNat = 57 := rfl
  rw [h1, h2, h3, h4]
  omega
def findKind (l : List Kind) (name : List UInt8) : Int :=
  match l.findIdx? (fun k => k.name == name) with
  | some i => i
  | none => -1
def kindsErr : List Kind → List Kind → Int
  | _, [] => 0
  | pre, k :: ks => if oneErr k ≠ 0 then oneErr k else if pre.any (fun o => o.name == k.name) then 5 else kindsErr (pre ++ [k]) ks
def checkErr (l : List Kind) : Int := if 16 < l.length then 2 else kindsErr [] l
def highOf (f : Field) : Int := if fieldErr f = 0 then f.low + (2 ^ f.bits.toNat - 1) else 0
def nearOf (f : Field) (v : Int) : Int := if fieldErr f = 0 then max f.low (min v (highOf f)) else 0
def fitOf (k : Kind) (vals : List Int) : List Int × Int :=
  if oneErr k ≠ 0 then ([], oneErr k) else if vals.length ≠ k.fields.length then ([], 1) else (List.zipWith nearOf k.fields vals, 0)
def holdsOf (k : Kind) (vals : List Int) : Bool := decide ((fitOf k vals).2 = 0) && decide ((fitOf k vals).1 = vals)

theorem findKind_none {l : List Kind} {name : List UInt8} (h : ∀ j (hj : j < l.length), l[j].name ≠ name) : findKind l name = -1 := by
  have : l.findIdx? (fun k => k.name == name) = none := by
    rw [List.findIdx?_eq_none_iff]
    intro x hx
    obtain ⟨j, hj, rfl⟩ := List.getElem_of_mem hx
    simpa using h j hj
  simp [findKind, this]
theorem findKind_some {l : List Kind} {name : List UInt8} {i : Nat} (hi : i < l.length) (e : l[i].name = name) (h : ∀ j (hj : j < i), (l[j]'(by omega)).name ≠ name) : findKind l name = i := by
  have : l.findIdx? (fun k => k.name == name) = some i := by
    rw [List.findIdx?_eq_some_iff_getElem]
    refine ⟨hi, by simpa using e, fun j hj => ?_⟩
    simpa using h j hj
  simp [findKind, this]
theorem kindsErr_bad {pre : List Kind} {k : Kind} {ks : List Kind} (h : oneErr k ≠ 0) : kindsErr pre (k :: ks) = oneErr k := by
  simp [kindsErr, h]
theorem kindsErr_twice {pre : List Kind} {k : Kind} {ks : List Kind} (h : oneErr k = 0) (hf : 0 ≤ findKind pre k.name) : kindsErr pre (k :: ks) = 5 := by
  have : pre.any (fun o => o.name == k.name) = true := by
    rcases hc : pre.any (fun o => o.name == k.name) with _ | _
    · exfalso
      rw [List.any_eq_false] at hc
      rw [findKind_none (fun j hj => by simpa using hc _ (List.getElem_mem hj))] at hf
      omega
    · rfl
  simp [kindsErr, h, this]
theorem kindsErr_next {pre : List Kind} {k : Kind} {ks : List Kind} (h : oneErr k = 0) (hf : findKind pre k.name < 0) : kindsErr pre (k :: ks) = kindsErr (pre ++ [k]) ks := by
  have : pre.any (fun o => o.name == k.name) = false := by
    rcases hc : pre.any (fun o => o.name == k.name) with _ | _
    · rfl
    · exfalso
      rw [List.any_eq_true] at hc
      obtain ⟨x, hx, e⟩ := hc
      unfold findKind at hf
      split at hf
      · omega
      · rename_i hn
        rw [List.findIdx?_eq_none_iff] at hn
        exact absurd e (by simpa using hn x hx)
  simp [kindsErr, h, this]
theorem kindsErr_at {l : List Kind} {i : Nat} (hi : i < l.length) : kindsErr (l.take i) (l.drop i) = kindsErr (l.take i) (l[i] :: l.drop (i + 1)) := by
  rw [List.drop_eq_getElem_cons hi]
theorem kindsErr_end {l : List Kind} {i : Nat} (hi : l.length ≤ i) : kindsErr (l.take i) (l.drop i) = 0 := by
  rw [List.drop_of_length_le hi]; rfl
theorem fieldErr_ok (f : Field) (h : nameOk f.name = true) (hb : 1 ≤ f.bits ∧ f.bits ≤ 32 ∧ -4294967296 ≤ f.low ∧ f.low ≤ 4294967296) : fieldErr f = 0 := by
  simp [fieldErr, h, hb]
theorem fieldErr_no (f : Field) (h : nameOk f.name = true → ¬ (1 ≤ f.bits ∧ f.bits ≤ 32 ∧ -4294967296 ≤ f.low ∧ f.low ≤ 4294967296)) : fieldErr f = 3 := by
  unfold fieldErr
  rw [if_neg]
  simp only [Bool.and_eq_true, decide_eq_true_eq]
  intro hc
  exact h hc.1.1.1.1 ⟨hc.1.1.1.2, hc.1.1.2, hc.1.2, hc.2⟩
theorem fieldErr_eq_zero (f : Field) : fieldErr f = 0 ↔ nameOk f.name = true ∧ 1 ≤ f.bits ∧ f.bits ≤ 32 ∧ -4294967296 ≤ f.low ∧ f.low ≤ 4294967296 := by
  constructor
  · intro h
    unfold fieldErr at h
    split at h
    · rename_i hc
      simpa [and_assoc] using hc
    · simp at h
  · rintro ⟨h, hb⟩
    exact fieldErr_ok f h hb
theorem fieldErr_cases (f : Field) : fieldErr f = 0 ∨ fieldErr f = 3 := by
  unfold fieldErr
  split <;> simp
theorem fieldsErr_bad {pre : List Field} {f : Field} {fs : List Field} (h : fieldErr f ≠ 0) : fieldsErr pre (f :: fs) = fieldErr f := by
  simp [fieldsErr, h]
theorem fieldsErr_twice {pre : List Field} {f : Field} {fs : List Field} (h : fieldErr f = 0) {j : Nat} (hj : j < pre.length) (e : pre[j].name = f.name) : fieldsErr pre (f :: fs) = 5 := by
  have : pre.any (fun o => o.name == f.name) = true := by
    rw [List.any_eq_true]
    exact ⟨pre[j], List.getElem_mem hj, by simp [e]⟩
  simp [fieldsErr, h, this]
theorem fieldsErr_next {pre : List Field} {f : Field} {fs : List Field} (h : fieldErr f = 0) (e : ∀ j (hj : j < pre.length), pre[j].name ≠ f.name) : fieldsErr pre (f :: fs) = fieldsErr (pre ++ [f]) fs := by
  have : pre.any (fun o => o.name == f.name) = false := by
    rw [List.any_eq_false]
    intro x hx
    obtain ⟨j, hj, rfl⟩ := List.getElem_of_mem hx
    simpa using e j hj
  simp [fieldsErr, h, this]
theorem fieldsErr_at {l : List Field} {i : Nat} (hi : i < l.length) : fieldsErr (l.take i) (l.drop i) = fieldsErr (l.take i) (l[i] :: l.drop (i + 1)) := by
  rw [List.drop_eq_getElem_cons hi]
theorem fieldsErr_end {l : List Field} {i : Nat} (hi : l.length ≤ i) : fieldsErr (l.take i) (l.drop i) = 0 := by
  rw [List.drop_of_length_le hi]; rfl
theorem nameOk_no (l : List UInt8) (j : Nat) (hj : j < l.length) (h : chOk l j = false) : nameOk l = false := by
  have : (List.range l.length).all (chOk l) = false := by
    rw [List.all_eq_false]
    exact ⟨j, List.mem_range.2 hj, by simp [h]⟩
  simp [nameOk, this]
theorem nameOk_yes (l : List UInt8) (h0 : 0 < l.length) (h1 : l.length ≤ 16) (h : ∀ j, j < l.length → chOk l j = true) : nameOk l = true := by
  have : (List.range l.length).all (chOk l) = true := by
    rw [List.all_eq_true]
    intro x hx
    exact h x (List.mem_range.1 hx)
  simp [nameOk, this, h0, h1]
theorem nameOk_long (l : List UInt8) (h : l.length = 0 ∨ 16 < l.length) : nameOk l = false := by
  rcases h with h | h
  · simp [nameOk, h]
  · simp [nameOk, show ¬ l.length ≤ 16 from by omega]

theorem pow_bits {b : Int} (h1 : 1 ≤ b) (h2 : b ≤ 32) : (2 : Int) ≤ 2 ^ b.toNat ∧ (2 : Int) ^ b.toNat ≤ 4294967296 := by
  obtain ⟨n, rfl⟩ : ∃ n : Nat, b = n := ⟨b.toNat, by omega⟩
  rw [Int.toNat_natCast]
  have h : n = 1 ∨ n = 2 ∨ n = 3 ∨ n = 4 ∨ n = 5 ∨ n = 6 ∨ n = 7 ∨ n = 8 ∨ n = 9 ∨ n = 10 ∨ n = 11 ∨ n = 12 ∨ n = 13 ∨ n = 14 ∨ n = 15 ∨ n = 16 ∨ n = 17 ∨ n = 18 ∨ n = 19 ∨ n = 20 ∨ n = 21 ∨ n = 22 ∨ n = 23 ∨ n = 24 ∨ n = 25 ∨ n = 26 ∨ n = 27 ∨ n = 28 ∨ n = 29 ∨ n = 30 ∨ n = 31 ∨ n = 32 := by omega
  rcases h with rfl | rfl | rfl | rfl | rfl | rfl | rfl | rfl | rfl | rfl | rfl | rfl | rfl | rfl | rfl | rfl | rfl | rfl | rfl | rfl | rfl | rfl | rfl | rfl | rfl | rfl | rfl | rfl | rfl | rfl | rfl | rfl <;> decide
theorem highOf_eq {f : Field} (h : fieldErr f = 0) : highOf f = f.low + (2 ^ f.bits.toNat - 1) := by simp [highOf, h]
theorem highOf_bd {f : Field} (h : fieldErr f = 0) : f.low < highOf f ∧ highOf f ≤ 8589934592 := by
  have hb := (fieldErr_eq_zero f).1 h
  have := pow_bits hb.2.1 hb.2.2.1
  rw [highOf_eq h]
  omega
theorem highOf_range (f : Field) : -4294967296 ≤ highOf f ∧ highOf f ≤ 8589934592 := by
  rcases fieldErr_cases f with h | h
  · have := highOf_bd h
    have hb := (fieldErr_eq_zero f).1 h
    omega
  · simp [highOf, h]
theorem nearOf_range (f : Field) (v : Int) : -4294967296 ≤ nearOf f v ∧ nearOf f v ≤ 8589934592 := by
  rcases fieldErr_cases f with h | h
  · have := highOf_bd h
    have hb := (fieldErr_eq_zero f).1 h
    simp only [nearOf, h, if_true]
    omega
  · simp [nearOf, h]
theorem fieldsErr_zero {pre l : List Field} (h : fieldsErr pre l = 0) : ∀ f ∈ l, fieldErr f = 0 := by
  induction l generalizing pre with
  | nil => intro f hf; cases hf
  | cons x l ih =>
    intro f hf
    simp only [fieldsErr] at h
    split at h
    · rename_i hx; exact absurd h hx
    · rename_i hx
      split at h
      · simp at h
      · rcases List.mem_cons.1 hf with rfl | hf
        · simpa using hx
        · exact ih h f hf
theorem oneErr_zero {k : Kind} (h : oneErr k = 0) : nameOk k.name = true ∧ k.fields.length ≤ 8 ∧ ∀ f ∈ k.fields, fieldErr f = 0 := by
  unfold oneErr at h
  split at h
  · rename_i h1
    split at h
    · simp at h
    · rename_i h2
      exact ⟨h1, by omega, fieldsErr_zero h⟩
  · simp at h
/-- What a made row holds when n places are filled, and one more. -/
theorem fill_set {l : List Int} {m n : Nat} (hm : l.length = m) (hn : n < m) : (l.take n ++ List.replicate (m - n) 0).set n (l[n]'(by omega)) = l.take (n + 1) ++ List.replicate (m - (n + 1)) 0 := by
  rw [show m - n = (m - (n + 1)) + 1 from by omega, List.replicate_succ, List.set_append_right _ _ (by simp; omega)]
  have e : n - (l.take n).length = 0 := by simp; omega
  rw [e, List.take_succ_eq_append_getElem (by omega), List.append_assoc]
  rfl
theorem fill_end {l : List Int} {m : Nat} (hm : l.length = m) : l.take m ++ List.replicate (m - m) 0 = l := by
  rw [List.take_of_length_le (by omega)]; simp
theorem fill_len {l : List Int} {m n : Nat} (hm : l.length = m) (hn : n ≤ m) : (l.take n ++ List.replicate (m - n) 0).length = m := by
  simp; omega
end Go.Proofs.Ytcfleoaldoebhaa

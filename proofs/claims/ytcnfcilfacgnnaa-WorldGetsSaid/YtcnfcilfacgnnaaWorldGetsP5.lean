/-
  Part 5 of the texts under the law WorldGets: the layer of abstract values, walks and plain laws. Conditions: those that each theorem names.
-/
import Derived.Below
import Derived.Test.YtcnfcilfacgnnaaWorldGetsP4
namespace Go.Proofs.Ytcnfcilfacgnnaa
set_option linter.unusedSimpArgs false
set_option linter.unusedVariables false

theorem genFields_len (i c : Nat) (l : List Int) : (genFields i c l).1.length = c := by
  induction c generalizing i l with
  | zero => rfl
  | succ c ih => simp [genFields, ih]
theorem genFields_names (i c : Nat) (l : List Int) : (genFields i c l).1.map (·.name) = (List.range' i c).map fieldName := by
  induction c generalizing i l with
  | zero => rfl
  | succ c ih =>
    have : (genField i l).1.name = fieldName i := by unfold genField; split <;> rfl
    simp [genFields, ih, List.range'_succ, this]
theorem genKindsFrom_len (k c : Nat) (l : List Int) : (genKindsFrom k c l).1.length = c := by
  induction c generalizing k l with
  | zero => rfl
  | succ c ih => simp [genKindsFrom, ih]
theorem genKindsFrom_names (k c : Nat) (l : List Int) : (genKindsFrom k c l).1.map (·.name) = (List.range' k c).map kindName := by
  induction c generalizing k l with
  | zero => rfl
  | succ c ih => simp [genKindsFrom, ih, List.range'_succ, genKind]

theorem fieldName_ok (i : Nat) : nameOk (fieldName i) = true := by
  unfold fieldName
  split <;> decide
theorem kindName_ok (i : Nat) : nameOk (kindName i) = true := by
  unfold kindName
  split <;> decide
theorem genField_ok (i : Nat) (l : List Int) : fieldErr (genField i l).1 = 0 := by
  have h1 := nextV_range l (n := 9) (by omega)
  have h2 := nextV_range (nextL l 9) (n := 40) (by omega)
  unfold genField
  split
  · simp [fieldErr, fieldName_ok]
  · simp [fieldErr, fieldName_ok]
    omega
theorem genFields_ok (i c : Nat) (l : List Int) : ∀ f ∈ (genFields i c l).1, fieldErr f = 0 := by
  induction c generalizing i l with
  | zero => intro f h; simp [genFields] at h
  | succ c ih =>
    intro f h
    simp only [genFields, List.mem_cons] at h
    rcases h with rfl | h
    · exact genField_ok i l
    · exact ih _ _ f h

theorem fieldsErr_nil0 : ∀ (fs pre : List Field), (∀ f ∈ fs, fieldErr f = 0) → ((pre ++ fs).map (·.name)).Nodup → fieldsErr pre fs = 0 := by
  intro fs
  induction fs with
  | nil => intro pre _ _; rfl
  | cons f fs ih =>
    intro pre h hn
    have h1 := h f (by simp)
    have h2 : pre.any (fun o => o.name == f.name) = false := by
      rw [List.any_eq_false]
      intro o ho
      simp only [beq_iff_eq]
      intro e
      rw [List.map_append, List.nodup_append] at hn
      exact hn.2.2 o.name (List.mem_map_of_mem ho) f.name (by simp) e
    simp only [fieldsErr, h1, h2]
    simp
    exact ih _ (fun x hx => h x (by simp [hx])) (by simpa using hn)
theorem kindsErr_zero : ∀ (ks pre : List Kind), (∀ k ∈ ks, oneErr k = 0) → ((pre ++ ks).map (·.name)).Nodup → kindsErr pre ks = 0 := by
  intro fs
  induction fs with
  | nil => intro pre _ _; rfl
  | cons f fs ih =>
    intro pre h hn
    have h1 := h f (by simp)
    have h2 : pre.any (fun o => o.name == f.name) = false := by
      rw [List.any_eq_false]
      intro o ho
      simp only [beq_iff_eq]
      intro e
      rw [List.map_append, List.nodup_append] at hn
      exact hn.2.2 o.name (List.mem_map_of_mem ho) f.name (by simp) e
    simp only [kindsErr, h1, h2]
    simp
    exact ih _ (fun x hx => h x (by simp [hx])) (by simpa using hn)
theorem fieldNames_nodup {c : Nat} (h : c ≤ 3) : ((List.range' 0 c).map fieldName).Nodup := by
  have : c = 0 ∨ c = 1 ∨ c = 2 ∨ c = 3 := by omega
  rcases this with rfl | rfl | rfl | rfl <;> decide
theorem kindNames_nodup {c : Nat} (h : c ≤ 4) : ((List.range' 0 c).map kindName).Nodup := by
  have : c = 0 ∨ c = 1 ∨ c = 2 ∨ c = 3 ∨ c = 4 := by omega
  rcases this with rfl | rfl | rfl | rfl | rfl <;> decide
theorem genKind_ok (k : Nat) (l : List Int) : oneErr (genKind k l).1 = 0 := by
  have h1 := nextV_range l (n := 3) (by omega)
  have h2 : (1 + nextV l 3).toNat ≤ 3 := by omega
  have h3 := fieldsErr_nil0 (genFields 0 (1 + nextV l 3).toNat (nextL l 3)).1 [] (genFields_ok _ _ _) (by
    rw [List.nil_append, genFields_names]
    exact fieldNames_nodup h2)
  have h4 := genFields_len 0 (1 + nextV l 3).toNat (nextL l 3)
  unfold oneErr genKind
  simp only [kindName_ok, h3, h4, if_true]
  rw [if_neg (by omega)]
theorem genKindsFrom_ok (i c : Nat) (l : List Int) : ∀ f ∈ (genKindsFrom i c l).1, oneErr f = 0 := by
  induction c generalizing i l with
  | zero => intro f h; simp [genKindsFrom] at h
  | succ c ih =>
    intro f h
    simp only [genKindsFrom, List.mem_cons] at h
    rcases h with rfl | h
    · exact genKind_ok i l
    · exact ih _ _ f h
theorem genKinds_len (l : List Int) : 1 ≤ (genKinds l).1.length ∧ (genKinds l).1.length ≤ 4 := by
  have h := nextV_range l (n := 4) (by omega)
  unfold genKinds
  rw [genKindsFrom_len]
  omega
theorem genKinds_nodup (l : List Int) : ((genKinds l).1.map (·.name)).Nodup := by
  have h := nextV_range l (n := 4) (by omega)
  unfold genKinds
  rw [genKindsFrom_names]
  exact kindNames_nodup (by omega)
theorem genKinds_ok (l : List Int) : ∀ k ∈ (genKinds l).1, oneErr k = 0 := genKindsFrom_ok _ _ _
theorem genKinds_check (l : List Int) : checkErr (genKinds l).1 = 0 := by
  unfold checkErr
  have := genKinds_len l
  rw [if_neg (by omega)]
  exact kindsErr_zero _ [] (genKinds_ok l) (genKinds_nodup l)
end Go.Proofs.Ytcnfcilfacgnnaa

namespace Go.Proofs.Ytcnfcilfacgnnaa
set_option linter.unusedVariables false
theorem near_low {f : Field} (h : fieldErr f = 0) (v : Int) : f.low ≤ nearOf f v ∧ nearOf f v ≤ highOf f := by
  have := highOf_bd h
  unfold nearOf
  rw [if_pos h]
  omega
theorem near_in {f : Field} (h : fieldErr f = 0) {v : Int} (h1 : f.low ≤ v) (h2 : v ≤ highOf f) : nearOf f v = v := by
  unfold nearOf
  rw [if_pos h]
  omega
theorem near_near {f : Field} (h : fieldErr f = 0) (v : Int) : nearOf f (nearOf f v) = nearOf f v := near_in h (near_low h v).1 (near_low h v).2
theorem near_fits {fs : List Field} (h : ∀ f ∈ fs, fieldErr f = 0) (vals : List Int) : List.zipWith nearOf fs (List.zipWith nearOf fs vals) = List.zipWith nearOf fs vals := by
  induction fs generalizing vals with
  | nil => rfl
  | cons f fs ih =>
    cases vals with
    | nil => rfl
    | cons v vals => simp [near_near (h f (by simp)), ih (fun x hx => h x (by simp [hx]))]
theorem fitOf_ok {k : Kind} (h : oneErr k = 0) {vals : List Int} (hl : vals.length = k.fields.length) : fitOf k vals = (List.zipWith nearOf k.fields vals, 0) := by
  unfold fitOf
  rw [if_neg (by simp [h]), if_neg (by simp [hl])]
theorem genKind_fields (k : Nat) (l : List Int) : (∀ f ∈ (genKind k l).1.fields, fieldErr f = 0) ∧ (genKind k l).1.fields.length ≤ 3 := by
  have h1 := nextV_range l (n := 3) (by omega)
  refine ⟨genFields_ok _ _ _, ?_⟩
  show (genFields _ _ _).1.length ≤ 3
  rw [genFields_len]
  omega
theorem genKindsFrom_fields (i c : Nat) (l : List Int) : ∀ k ∈ (genKindsFrom i c l).1, (∀ f ∈ k.fields, fieldErr f = 0) ∧ k.fields.length ≤ 3 := by
  induction c generalizing i l with
  | zero => intro f h; simp [genKindsFrom] at h
  | succ c ih =>
    intro f h
    simp only [genKindsFrom, List.mem_cons] at h
    rcases h with rfl | h
    · exact genKind_fields i l
    · exact ih _ _ f h
theorem genKinds_fields (l : List Int) : ∀ k ∈ (genKinds l).1, (∀ f ∈ k.fields, fieldErr f = 0) ∧ k.fields.length ≤ 3 := genKindsFrom_fields _ _ _
end Go.Proofs.Ytcnfcilfacgnnaa

namespace Go.Proofs.Ytcnfcilfacgnnaa
set_option linter.unusedSimpArgs false
set_option linter.unusedVariables false
/-- The values for the first i fields. -/
def vAt (fs : List Field) (l : List Int) : Nat → List Int × List Int
  | 0 => ([], l)
  | i + 1 => match fs[i]? with
    | some f => ((vAt fs l i).1 ++ [f.low + nextV (vAt fs l i).2 (2 ^ f.bits.toNat)], nextL (vAt fs l i).2 (2 ^ f.bits.toNat))
    | none => vAt fs l i
/-- The components of the first i kinds. -/
def cAt (ks : List Kind) (l : List Int) : Nat → List Comp × List Int
  | 0 => ([], l)
  | i + 1 => match ks[i]? with
    | some k => if nextV (cAt ks l i).2 3 = 2 then ((cAt ks l i).1, nextL (cAt ks l i).2 3)
      else ((cAt ks l i).1 ++ [⟨i, (vAt k.fields (nextL (cAt ks l i).2 3) k.fields.length).1⟩], (vAt k.fields (nextL (cAt ks l i).2 3) k.fields.length).2)
    | none => cAt ks l i
def genComps (ks : List Kind) (l : List Int) : List Comp × List Int := cAt ks l ks.length
/-- The generations and items of the first i slots. -/
def wAt (ks : List Kind) (l : List Int) : Nat → List Int × List Item × List Int
  | 0 => ([], [], l)
  | i + 1 =>
    if nextV (nextL (wAt ks l i).2.2 3) 4 = 3 ∨ (wAt ks l i).2.1.length = 8 then ((wAt ks l i).1 ++ [nextV (wAt ks l i).2.2 3], (wAt ks l i).2.1, nextL (nextL (wAt ks l i).2.2 3) 4)
    else ((wAt ks l i).1 ++ [nextV (wAt ks l i).2.2 3], (wAt ks l i).2.1 ++ [⟨⟨i, nextV (wAt ks l i).2.2 3⟩, (genComps ks (nextL (nextL (wAt ks l i).2.2 3) 4)).1⟩], (genComps ks (nextL (nextL (wAt ks l i).2.2 3) 4)).2)
def genWorld (l : List Int) : Wd :=
  ⟨(genKinds l).1, (wAt (genKinds l).1 (nextL (genKinds l).2 12) (nextV (genKinds l).2 12).toNat).1, (wAt (genKinds l).1 (nextL (genKinds l).2 12) (nextV (genKinds l).2 12).toNat).2.1⟩
/-- Fields whose values are small numbers. -/
def FieldOK (f : Field) : Prop := 0 ≤ f.bits ∧ f.bits ≤ 32 ∧ -2147483648 ≤ f.low ∧ f.low ≤ 2147483648
def KindsOK (ks : List Kind) : Prop := ks.length ≤ 1099511627776 ∧ ∀ k ∈ ks, k.fields.length ≤ 1099511627776 ∧ ∀ f ∈ k.fields, FieldOK f
end Go.Proofs.Ytcnfcilfacgnnaa

namespace Go.Proofs.Ytcnfcilfacgnnaa
set_option linter.unusedVariables false
theorem vAt_len (fs : List Field) (l : List Int) (i : Nat) : (vAt fs l i).1.length ≤ i := by
  induction i with
  | zero => simp [vAt]
  | succ i ih => rw [vAt]; split <;> (try simp only [List.length_append, List.length_singleton]) <;> omega
theorem cAt_len (ks : List Kind) (l : List Int) (i : Nat) : (cAt ks l i).1.length ≤ i := by
  induction i with
  | zero => simp [cAt]
  | succ i ih => rw [cAt]; split <;> (try split) <;> (try simp only [List.length_append, List.length_singleton]) <;> omega
theorem vAt_next {fs : List Field} {l : List Int} {i : Nat} (h : i < fs.length) : vAt fs l (i + 1) = ((vAt fs l i).1 ++ [fs[i].low + nextV (vAt fs l i).2 (2 ^ fs[i].bits.toNat)], nextL (vAt fs l i).2 (2 ^ fs[i].bits.toNat)) := by
  rw [vAt, List.getElem?_eq_getElem h]
theorem cAt_no {ks : List Kind} {l : List Int} {i : Nat} (h : i < ks.length) (h2 : nextV (cAt ks l i).2 3 = 2) : cAt ks l (i + 1) = ((cAt ks l i).1, nextL (cAt ks l i).2 3) := by
  rw [cAt, List.getElem?_eq_getElem h]; simp only; rw [if_pos h2]
theorem cAt_yes {ks : List Kind} {l : List Int} {i : Nat} (h : i < ks.length) (h2 : nextV (cAt ks l i).2 3 ≠ 2) : cAt ks l (i + 1) = ((cAt ks l i).1 ++ [⟨i, (vAt ks[i].fields (nextL (cAt ks l i).2 3) ks[i].fields.length).1⟩], (vAt ks[i].fields (nextL (cAt ks l i).2 3) ks[i].fields.length).2) := by
  rw [cAt, List.getElem?_eq_getElem h]; simp only; rw [if_neg h2]
theorem pow_small {b : Nat} (h : b ≤ 32) : (1 : Int) ≤ 2 ^ b ∧ (2 : Int) ^ b ≤ 4294967296 := by
  have h1 : (2 : Nat) ^ b ≤ 2 ^ 32 := Nat.pow_le_pow_right (by decide) h
  have h2 : 0 < (2 : Nat) ^ b := Nat.pow_pos (by decide)
  have h3 : ((2 : Int) ^ b) = (((2 : Nat) ^ b : Nat) : Int) := by simp
  rw [h3]
  have : (2 : Nat) ^ 32 = 4294967296 := by decide
  omega
theorem comps_po (G : Nat) (ks : List Kind) (l : List Int) (hk : KindsOK ks) : PO Try.prog 38 [kindsA false false ks, .ptr G 0 0] G (streamO l) (compsA true false (genComps ks l).1) (streamO (genComps ks l).2) := by
  refine Spec.of (nt := 50) (res := [.tmp 4]) Try.func38 rfl (by kernel_rfl) rfl rfl rfl fun Sf => ?_
  obtain ⟨hk0, hk1⟩ := hk
  (repeat refine WF ?_); refine AWP.region ?_; (repeat (first | refine WO ?_ | refine All.i fun X => ?_ | refine AllY.i fun Y => ?_)); refine AOps.nil ?_; (repeat refine WN ?_)
  (repeat refine WF ?_); refine AWP.region ?_; (repeat (first | refine WO ?_ | refine All.i fun X => ?_ | refine AllY.i fun Y => ?_)); refine AOps.nil ?_; (repeat refine WN ?_)
  (repeat refine WF ?_); refine AWP.region ?_; (repeat (first | refine WO ?_ | refine All.i fun X => ?_ | refine AllY.i fun Y => ?_)); refine AOps.nil ?_; (repeat refine WN ?_)
  (repeat first | refine AOps.nil ?_ | refine WF ?_)
  refine AWP.adopt (d := 5) 34 2 rfl fun K => ?_
  refine AWP.lp5 (fun (i K : Nat) (M : List AV) (n : Nat) (q : List Int) => ⟨[(1, .ptr G 0 0), (5, .sl K 0 n), (11, kindsA false false ks), (12, iA (ks.map (kindA false)).length), (13, iA i)], (K, .row 34 2 M) :: (G, streamO q) :: Sf⟩) (fun i _ M n q => i ≤ ks.length ∧ M = (cAt ks l i).1.map (compA false) ∧ n = M.length ∧ q = (cAt ks l i).2) (fun i _ _ _ _ => ks.length - i) 0 K [] 0 l ⟨Nat.zero_le _, rfl, rfl, rfl⟩ ?_
  rintro i K M n q ⟨hi, hM, hn, hq⟩
  (repeat (first | refine WK ?_ | refine All.i fun X => ?_ | refine AllY.i fun Y => ?_))
  refine AWP.cond rfl (fun hc => ?_) (fun hc => ?_)
  · have h : i < ks.length := by simpa using hc
    obtain ⟨hf0, hf1⟩ := hk1 _ (List.getElem_mem h)
    have h3 := nextV_range q (n := 3) (by decide)
    have hn1 : n + 1 ≤ 1099511627776 := by have := cAt_len ks l i; rw [hn, hM, List.length_map]; omega
    (repeat (first | (refine AOps.gN ?_; first | (refine AOps.g_callf ?_; first | refine AOps.o2 (h := (next_po G _ _ (by decide))) (k := ?_))) | refine WK ?_ | refine All.i fun X => ?_ | refine AllY.i fun Y => ?_))
    refine AWP.cond rfl (fun he => ?_) (fun he => ?_)
    · have he : nextV q 3 = 2 := by simpa using he
      (repeat (first | refine WK ?_ | refine All.i fun X => ?_ | refine AllY.i fun Y => ?_))
      refine lp_next5 (i + 1) K M n _ ⟨h, ?_, hn, ?_⟩
      · rw [cAt_no h (hq ▸ he), hM]
      · rw [cAt_no h (hq ▸ he), hq]
    · have he : nextV q 3 ≠ 2 := by simpa using he
      (repeat refine WF ?_); refine AWP.region ?_; (repeat (first | refine WO ?_ | refine All.i fun Y => ?_ | refine AllY.i fun Y => ?_)); refine AOps.nil ?_; (repeat refine WN ?_)
      refine AWP.adoptIn (Y := Y) 3 1 .here (fun F => .cons (.agg (.cons .same (.cons (.base .nil) .nil))) .nil) fun F => ?_
      (repeat (first | refine WK ?_ | refine All.i fun X => ?_ | refine AllY.i fun Y => ?_))
      obtain ⟨fs, hfs⟩ : ∃ fs, ks[i].fields = fs := ⟨_, rfl⟩
      obtain ⟨q1, hq1⟩ : ∃ q1, nextL q 3 = q1 := ⟨_, rfl⟩
      rw [hq1, hfs]
      have hck : cAt ks l (i + 1) = ((cAt ks l i).1 ++ [⟨i, (vAt fs q1 fs.length).1⟩], (vAt fs q1 fs.length).2) := by rw [cAt_yes h (hq ▸ he), ← hq, hq1, hfs]
      rw [hfs] at hf0 hf1
      refine AWP.lp5 (fun (j F : Nat) (L : List AV) (m : Nat) (r : List Int) => ⟨[(1, .ptr G 0 0), (5, .sl K 0 n), (6, iA i), (8, .ptr Y 0 0), (11, kindsA false false ks), (12, iA (ks.map (kindA false)).length), (13, iA i), (24, fieldsA false fs), (25, iA (fs.map fieldA).length), (26, iA j)], (F, .row 3 1 L) :: (Y, .row 34 2 [.agg [iA i, .sl F 0 m]]) :: (K, .row 34 2 M) :: (G, streamO r) :: Sf⟩) (fun j _ L m r => j ≤ fs.length ∧ L = (vAt fs q1 j).1.map iA ∧ m = L.length ∧ r = (vAt fs q1 j).2) (fun j _ _ _ _ => fs.length - j) 0 F [] 0 q1 ⟨Nat.zero_le _, rfl, rfl, rfl⟩ ?_
      rintro j F L m r ⟨hj, hL, hm, hr⟩
      (repeat (first | refine WK ?_ | refine All.i fun X => ?_ | refine AllY.i fun Y => ?_))
      refine AWP.cond rfl (fun hd => ?_) (fun hd => ?_)
      · have hj' : j < fs.length := by simpa using hd
        obtain ⟨hb0, hb1, hl0, hl1⟩ := hf1 _ (List.getElem_mem hj')
        obtain ⟨b, hb⟩ : ∃ b : Nat, fs[j].bits = b := ⟨fs[j].bits.toNat, by omega⟩
        have hp := pow_small (b := b) (by omega)
        have hw : IntKind.i64.wrap (1 * 2 ^ b) = 2 ^ b := by rw [Int.one_mul]; exact wrap_id (by omega) (by omega)
        have hv := nextV_range r (n := IntKind.i64.wrap (1 * 2 ^ b)) (by omega)
        have hm1 : m + 1 ≤ 1099511627776 := by have := vAt_len fs q1 j; rw [hm, hL, List.length_map]; omega
        (repeat (first | refine WK ?_ | refine All.i fun Z => ?_ | refine AllY.i fun Y => ?_))
        refine AWP.rs fun X7 => ?_
        (repeat refine WF ?_); refine AWP.region_run (by kernel_rfl) (by kernel_rfl) ?_; (repeat (first | (refine RGo.gN ?_; first | (refine RGo.g_callf ?_; first | refine RGo.o2 (h := (next_po G _ _ (by rw [hw]; omega))) (k := ?_)) | refine RGo.p (W.shl rfl rfl hb (by show b ≤ 64; omega)) rfl ?_ | refine RGo.p (W.add rfl rfl (by omega)) rfl ?_) | (refine RGo.gQ ?_; first | (refine RGo.g_callf ?_; first | refine RGo.o2 (h := (next_po G _ _ (by rw [hw]; omega))) (k := ?_)) | refine RGo.p (W.shl rfl rfl hb (by show b ≤ 64; omega)) rfl ?_ | refine RGo.p (W.add rfl rfl (by omega)) rfl ?_) | refine RK ?_ | refine RGo.nil (by kernel_rfl) ?_))
        (repeat (first | refine WK ?_ | refine All.i fun X => ?_ | refine AllY.i fun Y => ?_))
        have hva : vAt fs q1 (j + 1) = ((vAt fs q1 j).1 ++ [fs[j].low + nextV r (IntKind.i64.wrap (1 * 2 ^ b))], nextL r (IntKind.i64.wrap (1 * 2 ^ b))) := by rw [vAt_next hj', ← hr, hw, hb]; rfl
        refine lp_next5 (j + 1) X7 _ _ _ ⟨hj', ?_, ?_, ?_⟩
        · rw [hva, hL, List.map_append]; rfl
        · rw [List.length_append, hm]
        · rw [hva]
      · have hj' : j = fs.length := by rw [decide_eq_false_iff_not, List.length_map] at hd; omega
        subst hj'
        (repeat first | refine AOps.nil ?_ | refine WF ?_)
        refine AWP.iceIn (X := F) (Y := Y) .here (.next .here) rfl (.cons (.agg (.cons .same (.cons (.base (.sl (by omega))) .nil))) .nil) ?_
        have hF : AV.frzs ((L.drop 0).take m) = (vAt fs q1 fs.length).1.map iA := by
          rw [List.drop_zero, List.take_of_length_le (by omega), hL]
          exact Frzs.h
        rw [hF]
        (repeat (first | (refine AOps.gN ?_; first | (refine AOps.g_lit ?_; refine AOps.goL (compA false ⟨i, (vAt fs q1 fs.length).1⟩) ?_)) | refine WK ?_ | refine All.i fun X => ?_ | refine AllY.i fun Y => ?_))
        refine lp_next5 (i + 1) Y _ _ _ ⟨h, ?_, ?_, ?_⟩
        · rw [hck, hM, List.map_append]; rfl
        · rw [List.length_append, hn]
        · rw [hck, hr]
  · have h : i = ks.length := by rw [decide_eq_false_iff_not, List.length_map] at hc; omega
    subst h
    (repeat (first | refine WK ?_ | refine All.i fun X => ?_ | refine AllY.i fun Y => ?_))
    (refine AWP.ret ?_; (repeat (first | refine inB_r ?_ | refine andThen_r ?_)); refine retQ_r ?_)
    subst hM hq
    exact ⟨[.sl K 0 n], [.lst true 34 2 ((cAt ks l ks.length).1.map (compA false))], _, [(G, streamO (cAt ks l ks.length).2)], .cons (.tmp rfl) rfl .nil, .cons (.cell (.sl (p := 0) .here hn)) .nil, by exact Sub.f, rfl, rfl⟩
theorem wAt_len1 (ks : List Kind) (l : List Int) (i : Nat) : (wAt ks l i).1.length = i := by
  induction i with
  | zero => rfl
  | succ i ih => rw [wAt]; split <;> simp [ih]
theorem wAt_len2 (ks : List Kind) (l : List Int) (i : Nat) : (wAt ks l i).2.1.length ≤ i := by
  induction i with
  | zero => simp [wAt]
  | succ i ih => rw [wAt]; split <;> (try simp only [List.length_append, List.length_singleton]) <;> omega
/-- A made world: its lists of generations and items are its own. -/
def wdO (w : Wd) : AV := .agg [kindsA false false w.kinds, intsA true w.gens, itemsA true false w.items]
instance {w : Wd} : Frz (wdO w) (wdA false w) := ⟨by unfold wdO wdA; exact Frz.h⟩
theorem genField_rng (i : Nat) (l : List Int) : FieldOK (genField i l).1 := by
  have h9 := nextV_range l (n := 9) (by decide)
  have h40 := nextV_range (nextL l 9) (n := 40) (by decide)
  unfold genField
  split <;> refine ⟨?_, ?_, ?_, ?_⟩ <;> simp <;> omega
theorem fAt_rng (i : Nat) (l : List Int) : ∀ f ∈ (fAt i l).1, FieldOK f := by
  induction i with
  | zero => intro f hf; cases hf
  | succ i ih =>
    intro f hf
    rcases List.mem_append.1 hf with hf | hf
    · exact ih f hf
    · rw [List.mem_singleton.1 hf]; exact genField_rng _ _
theorem genKind_rng (k : Nat) (l : List Int) : (genKind k l).1.fields.length ≤ 3 ∧ ∀ f ∈ (genKind k l).1.fields, FieldOK f := by
  have h := nextV_range l (n := 3) (by decide)
  show (genFields 0 (1 + nextV l 3).toNat (nextL l 3)).1.length ≤ 3 ∧ ∀ f ∈ (genFields 0 (1 + nextV l 3).toNat (nextL l 3)).1, FieldOK f
  rw [genFields_at]
  exact ⟨by rw [fAt_len]; omega, fAt_rng _ _⟩
theorem kAt_rng (i : Nat) (l : List Int) : ∀ k ∈ (kAt i l).1, k.fields.length ≤ 3 ∧ ∀ f ∈ k.fields, FieldOK f := by
  induction i with
  | zero => intro f hf; cases hf
  | succ i ih =>
    intro f hf
    rcases List.mem_append.1 hf with hf | hf
    · exact ih f hf
    · rw [List.mem_singleton.1 hf]; exact genKind_rng _ _
theorem genKinds_cnt (l : List Int) : (genKinds l).1.length = (1 + nextV l 4).toNat := by rw [genKinds_at, kAt_len]
theorem genKinds_rng (l : List Int) : KindsOK (genKinds l).1 := by
  have h := nextV_range l (n := 4) (by decide)
  refine ⟨by rw [genKinds_cnt]; omega, ?_⟩
  rw [genKinds_at]
  intro k hk
  have := kAt_rng _ _ k hk
  exact ⟨by omega, this.2⟩
theorem world_ps (l : List Int) : PS Try.prog 8 [intsA false l] (wdO (genWorld l)) := by
  refine Spec.of (nt := 52) (res := [.cell 2 26]) Try.func8 rfl (by kernel_rfl) rfl rfl rfl fun Sf => ?_
  have hko := genKinds_rng l
  obtain ⟨ks, hks⟩ : ∃ ks, (genKinds l).1 = ks := ⟨_, rfl⟩
  obtain ⟨l1, hl1⟩ : ∃ l1, (genKinds l).2 = l1 := ⟨_, rfl⟩
  have h12 := nextV_range l1 (n := 12) (by decide)
  obtain ⟨c, hc⟩ : ∃ c : Nat, nextV l1 12 = c := ⟨(nextV l1 12).toNat, by omega⟩
  obtain ⟨l2, hl2⟩ : ∃ l2, nextL l1 12 = l2 := ⟨_, rfl⟩
  have hg : genWorld l = ⟨ks, (wAt ks l2 c).1, (wAt ks l2 c).2.1⟩ := by unfold genWorld; rw [hks, hl1, hl2, hc]; rfl
  have hkp := fun G => kinds_po G l
  rw [hks, hl1] at hkp
  rw [hks] at hko
  rw [hg]
  clear hg hks hl1
  (repeat refine WF ?_); refine AWP.region ?_; (repeat (first | refine WO ?_ | refine All.i fun R => ?_ | refine AllY.i fun Y => ?_)); refine AOps.nil ?_; (repeat refine WN ?_)
  (repeat refine WF ?_); refine AWP.region ?_; (repeat (first | refine WO ?_ | refine All.i fun G => ?_ | refine AllY.i fun Y => ?_)); refine AOps.nil ?_; (repeat refine WN ?_)
  (repeat refine WF ?_); refine AWP.region ?_; (repeat (first | (refine AOps.gN ?_; first | (refine AOps.g_callf ?_; first | refine AOps.o1 (h := (hkp G)) (k := ?_))) | refine WO ?_ | refine All.i fun V => ?_ | refine AllY.i fun Y => ?_)); refine AOps.nil ?_; (repeat refine WN ?_)
  (repeat refine WF ?_); refine AWP.region ?_; (repeat (first | (refine AOps.gN ?_; first | (refine AOps.g_callf ?_; first | refine AOps.o2 (h := (next_po G _ _ (by decide))) (k := ?_))) | refine WO ?_ | refine All.i fun X => ?_ | refine AllY.i fun Y => ?_)); refine AOps.nil ?_; (repeat refine WN ?_)
  rw [hl2, hc]
  refine AWP.adoptIn (Y := V) 48 3 (by exact At.f) (fun F => .cons (.agg (.cons .same (.cons .same (.cons (.base .nil) .nil)))) .nil) fun B => ?_
  refine AWP.adoptIn (Y := V) 3 1 (by exact At.f) (fun F => .cons (.agg (.cons .same (.cons (.base .nil) (.cons .same .nil)))) .nil) fun A => ?_
  (repeat first | refine AOps.nil ?_ | refine WF ?_)
  refine AWP.lp7 (fun (i A B : Nat) (L M : List AV) (n : Nat) (q : List Int) => ⟨[(2, .ptr R 0 0), (3, .ptr G 0 0), (4, .ptr V 0 0), (13, iA c), (14, iA i)], (A, .row 3 1 L) :: (B, .row 48 3 M) :: (V, .row 26 3 [.agg [kindsA false false ks, .sl A 0 i, .sl B 0 n]]) :: (G, streamO q) :: (R, .row 26 3 [.agg [.prim (.slice none 0 0), .prim (.slice none 0 0), .prim (.slice none 0 0)]]) :: Sf⟩) (fun i _ _ L M n q => i ≤ c ∧ L = (wAt ks l2 i).1.map iA ∧ M = (wAt ks l2 i).2.1.map (itemA false) ∧ n = M.length ∧ q = (wAt ks l2 i).2.2) (fun i _ _ _ _ _ _ => c - i) 0 A B [] [] 0 l2 ⟨Nat.zero_le _, rfl, rfl, rfl, rfl⟩ ?_
  rintro i A B L M n q ⟨hi, hL, hM, hn, hq⟩
  have hA := wAt_len1 ks l2 i
  have hB := wAt_len2 ks l2 i
  (repeat (first | refine WK ?_ | refine All.i fun X => ?_ | refine AllY.i fun Y => ?_))
  refine AWP.cond rfl (fun hd => ?_) (fun hd => ?_)
  · have h : i < c := by rw [decide_eq_true_eq] at hd; omega
    have h3 := nextV_range q (n := 3) (by decide)
    have h4 := nextV_range (nextL q 3) (n := 4) (by decide)
    (repeat refine WF ?_); refine AWP.region ?_; (repeat (first | refine WO ?_ | refine All.i fun X => ?_ | refine AllY.i fun Y => ?_)); refine AOps.nil ?_; (repeat refine WN ?_)
    refine AWP.rs fun X7 => ?_
    (repeat refine WF ?_); refine AWP.region_run (by kernel_rfl) (by kernel_rfl) ?_; (repeat (first | (refine RGo.gN ?_; first | (refine RGo.g_callf ?_; first | refine RGo.o2 (h := (next_po G _ _ (by decide))) (k := ?_))) | (refine RGo.gQ ?_; first | (refine RGo.g_callf ?_; first | refine RGo.o2 (h := (next_po G _ _ (by decide))) (k := ?_))) | refine RK ?_ | refine RGo.nil (by kernel_rfl) ?_))
    (repeat (first | (refine AOps.gN ?_; first | (refine AOps.g_callf ?_; first | refine AOps.o2 (h := (next_po G _ _ (by decide))) (k := ?_))) | refine WK ?_ | refine All.i fun X => ?_ | refine AllY.i fun Y => ?_))
    have hLl : L.length = i := by rw [hL, List.length_map, hA]
    obtain ⟨IT, hIT⟩ : ∃ IT, (wAt ks l2 i).2.1 = IT := ⟨_, rfl⟩
    rw [hIT] at hM hB
    have hnl : n = IT.length := by rw [hn, hM, List.length_map]
    have hat : (L ++ [.prim (.int .i64 (nextV q 3))])[i]? = some (.prim (.int .i64 (nextV q 3))) := by rw [← hLl]; simp
    refine AWP.cond rfl (fun he => ?_) (fun he => ?_)
    · have he : nextV (nextL q 3) 4 = 3 ∨ n = 8 := by rw [Bool.or_eq_true, decide_eq_true_eq, decide_eq_true_eq] at he; omega
      have hw : wAt ks l2 (i + 1) = ((wAt ks l2 i).1 ++ [nextV q 3], IT, nextL (nextL q 3) 4) := by rw [wAt, ← hq, hIT, ← hnl, if_pos he]
      (repeat (first | refine WK ?_ | refine All.i fun X => ?_ | refine AllY.i fun Y => ?_))
      refine lp_next7 (i + 1) X7 B _ M n _ ⟨h, ?_, ?_, hn, ?_⟩
      · rw [hw, hL, List.map_append]; rfl
      · rw [hw, hM]
      · rw [hw]
    · have he : ¬ (nextV (nextL q 3) 4 = 3 ∨ n = 8) := by rw [Bool.or_eq_false_iff, decide_eq_false_iff_not, decide_eq_false_iff_not] at he; omega
      have hw : wAt ks l2 (i + 1) = ((wAt ks l2 i).1 ++ [nextV q 3], IT ++ [⟨⟨i, nextV q 3⟩, (genComps ks (nextL (nextL q 3) 4)).1⟩], (genComps ks (nextL (nextL q 3) 4)).2) := by rw [wAt, ← hq, hIT, ← hnl, if_neg he]
      have hin : i < i + [AV.prim (.int .i64 (nextV q 3))].length := Nat.lt_succ_self i
      refine AWP.rs fun X8 => ?_
      (repeat refine WF ?_); refine AWP.region_run (by kernel_rfl) (by kernel_rfl) ?_; (repeat (first | (refine RGo.gN ?_; first | (refine RGo.g_callf ?_; first | refine RGo.o2 (h := (comps_po G ks _ hko)) (k := ?_)) | (refine RGo.g_lit ?_; refine RGo.goL (itemA false ⟨⟨i, nextV q 3⟩, (genComps ks (nextL (nextL q 3) 4)).1⟩) ?_)) | (refine RGo.gQ ?_; first | (refine RGo.g_callf ?_; first | refine RGo.o2 (h := (comps_po G ks _ hko)) (k := ?_)) | (refine RGo.g_lit ?_; refine RGo.goL (itemA false ⟨⟨i, nextV q 3⟩, (genComps ks (nextL (nextL q 3) 4)).1⟩) ?_)) | refine RK ?_ | refine RGo.nil (by kernel_rfl) ?_))
      (repeat (first | refine WK ?_ | refine All.i fun X => ?_ | refine AllY.i fun Y => ?_))
      refine lp_next7 (i + 1) X7 X8 _ _ _ _ ⟨h, ?_, ?_, ?_, ?_⟩
      · rw [hw, hL, List.map_append]; rfl
      · rw [hw, hM, List.map_append]; rfl
      · rw [List.length_append, hn]
      · rw [hw]
  · have h : i = c := by rw [decide_eq_false_iff_not] at hd; omega
    subst h
    (repeat (first | refine WK ?_ | refine All.i fun X => ?_ | refine AllY.i fun Y => ?_))
    (refine AWP.ret ?_; (repeat (first | refine inB_r ?_ | refine andThen_r ?_)); refine retQ_r ?_)
    subst hL hM
    have hA : i = ((wAt ks l2 i).1.map iA).length := by rw [List.length_map, hA]
    exact ⟨[.agg [kindsA false false ks, .sl A 0 i, .sl B 0 n]], [wdO ⟨ks, (wAt ks l2 i).1, (wAt ks l2 i).2.1⟩], _, [], .cons (.cell (p := 4) rfl (by exact At.f) TAg.h TSize.h rfl rfl) rfl .nil, .cons (.agg (.cons .same (.cons (.sl (p := 0) .here hA) (.cons (.sl (p := 0) .here hn) .nil)))) .nil, by exact Sub.f, rfl, rfl⟩
end Go.Proofs.Ytcnfcilfacgnnaa

namespace Go.Proofs.Ytcnfcilfacgnnaa
set_option linter.unusedVariables false
theorem cAt_mem {ks : List Kind} {l : List Int} {i : Nat} {c : Comp} (h : c ∈ (cAt ks l i).1) : ∃ (j : Nat) (hj : j < ks.length) (q : List Int), j < i ∧ c = ⟨j, (vAt ks[j].fields q ks[j].fields.length).1⟩ := by
  induction i with
  | zero => cases h
  | succ i ih =>
    by_cases hi : i < ks.length
    · by_cases h2 : nextV (cAt ks l i).2 3 = 2
      · rw [cAt_no hi h2] at h
        obtain ⟨j, hj, q, h3, h4⟩ := ih h
        exact ⟨j, hj, q, by omega, h4⟩
      · rw [cAt_yes hi h2] at h
        rcases List.mem_append.1 h with h | h
        · obtain ⟨j, hj, q, h3, h4⟩ := ih h
          exact ⟨j, hj, q, by omega, h4⟩
        · rw [List.mem_singleton.1 h]
          exact ⟨i, hi, _, by omega, rfl⟩
    · rw [cAt, List.getElem?_eq_none (by omega)] at h
      obtain ⟨j, hj, q, h3, h4⟩ := ih h
      exact ⟨j, hj, q, by omega, h4⟩
theorem wAt_mem {ks : List Kind} {l : List Int} {i : Nat} {it : Item} (h : it ∈ (wAt ks l i).2.1) : ∃ (j : Nat) (q : List Int), j < i ∧ (wAt ks l i).1[j]? = some it.ent.gen ∧ it.ent.n = j ∧ it.comps = (genComps ks q).1 := by
  induction i with
  | zero => cases h
  | succ i ih =>
    have hl := wAt_len1 ks l i
    have hup : ∀ (x : Int) (g : Int) (j : Nat), (wAt ks l i).1[j]? = some g → ((wAt ks l i).1 ++ [x])[j]? = some g := fun x g j hg => by
      rw [List.getElem?_append_left (List.getElem?_eq_some_iff.1 hg).1, hg]
    rw [wAt] at h ⊢
    split
    · rename_i hs
      rw [if_pos hs] at h
      obtain ⟨j, q, h1, h2, h3, h4⟩ := ih h
      exact ⟨j, q, by omega, hup _ _ _ h2, h3, h4⟩
    · rename_i hs
      rw [if_neg hs] at h
      rcases List.mem_append.1 h with h | h
      · obtain ⟨j, q, h1, h2, h3, h4⟩ := ih h
        exact ⟨j, q, by omega, hup _ _ _ h2, h3, h4⟩
      · rw [List.mem_singleton.1 h]
        exact ⟨i, _, by omega, by rw [List.getElem?_append_right (by omega), hl]; simp, rfl, rfl⟩
theorem genKinds_small (l : List Int) : (genKinds l).1.length ≤ 4 ∧ ∀ k ∈ (genKinds l).1, k.fields.length ≤ 3 := by
  have h := nextV_range l (n := 4) (by decide)
  refine ⟨by rw [genKinds_cnt]; omega, ?_⟩
  rw [genKinds_at]
  intro k hk
  exact (kAt_rng _ _ k hk).1
end Go.Proofs.Ytcnfcilfacgnnaa

namespace Go.Proofs.Ytcnfcilfacgnnaa
set_option linter.unusedVariables false
theorem heldFrom_iff {ks : List Kind} : ∀ {l : List Comp} {last : Int}, -1 ≤ last → (heldFrom ks last l = true ↔ l.Pairwise (fun a b => a.kind < b.kind) ∧ ∀ c ∈ l, last < c.kind ∧ c.kind < ks.length ∧ ∃ k, ks[c.kind.toNat]? = some k ∧ holdsOf k c.vals = true)
  | [], _, _ => by simp [heldFrom]
  | c :: l, last, hl => by
    rw [heldFrom]
    constructor
    · intro h
      split at h
      · rename_i k hk
        simp only [Bool.and_eq_true, decide_eq_true_eq] at h
        obtain ⟨⟨⟨h1, h2⟩, h3⟩, h4⟩ := h
        obtain ⟨h5, h6⟩ := (heldFrom_iff (by omega)).1 h4
        refine ⟨List.pairwise_cons.2 ⟨fun d hd => (h6 d hd).1, h5⟩, fun d hd => ?_⟩
        rcases List.mem_cons.1 hd with rfl | hd
        · exact ⟨h1, h2, k, hk, h3⟩
        · obtain ⟨q1, q2⟩ := h6 d hd
          exact ⟨by omega, q2⟩
      · cases h
    · rintro ⟨h1, h2⟩
      obtain ⟨h3, h4⟩ := List.pairwise_cons.1 h1
      obtain ⟨h5, h6, k, hk, h7⟩ := h2 c (by simp)
      rw [hk]
      simp only [Bool.and_eq_true, decide_eq_true_eq]
      exact ⟨⟨⟨h5, h6⟩, h7⟩, (heldFrom_iff (by omega)).2 ⟨h4, fun d hd => ⟨h3 d hd, (h2 d (by simp [hd])).2⟩⟩⟩
theorem itemsFrom_iff {ks : List Kind} {gens : List Int} : ∀ {l : List Item} {last : Int}, -1 ≤ last → (itemsFrom ks gens last l = true ↔ l.Pairwise (fun a b => a.ent.n < b.ent.n) ∧ ∀ it ∈ l, last < it.ent.n ∧ it.ent.n < gens.length ∧ gens[it.ent.n.toNat]? = some it.ent.gen ∧ it.ent.gen ≠ 1073741824 ∧ heldOf ks it.comps = true)
  | [], _, _ => by simp [itemsFrom]
  | c :: l, last, hl => by
    rw [itemsFrom]
    constructor
    · intro h
      split at h
      · rename_i k hk
        simp only [Bool.and_eq_true, decide_eq_true_eq, Bool.not_eq_true', decide_eq_false_iff_not] at h
        obtain ⟨⟨⟨⟨⟨h1, h2⟩, h3⟩, h4⟩, h7⟩, h8⟩ := h
        obtain ⟨h5, h6⟩ := (itemsFrom_iff (by omega)).1 h8
        refine ⟨List.pairwise_cons.2 ⟨fun d hd => (h6 d hd).1, h5⟩, fun d hd => ?_⟩
        rcases List.mem_cons.1 hd with rfl | hd
        · exact ⟨h1, h2, by rw [hk, h3], h4, h7⟩
        · obtain ⟨q1, q2⟩ := h6 d hd
          exact ⟨by omega, q2⟩
      · cases h
    · rintro ⟨h1, h2⟩
      obtain ⟨h3, h4⟩ := List.pairwise_cons.1 h1
      obtain ⟨h5, h6, hk, h7, h8⟩ := h2 c (by simp)
      rw [hk]
      simp only [Bool.and_eq_true, decide_eq_true_eq, Bool.not_eq_true', decide_eq_false_iff_not]
      exact ⟨⟨⟨⟨⟨h5, h6⟩, trivial⟩, h7⟩, h8⟩, (itemsFrom_iff (by omega)).2 ⟨h4, fun d hd => ⟨h3 d hd, (h2 d (by simp [hd])).2⟩⟩⟩
/-- What a valid world is. -/
structure WdOK (w : Wd) : Prop where
  ks : checkErr w.kinds = 0
  gl : w.gens.length ≤ 256
  il : w.items.length ≤ w.gens.length
  gs : ∀ g ∈ w.gens, 0 ≤ g ∧ g ≤ 1073741824
  so : w.items.Pairwise fun a b => a.ent.n < b.ent.n
  it : ∀ it ∈ w.items, 0 ≤ it.ent.n ∧ it.ent.n < w.gens.length ∧ w.gens[it.ent.n.toNat]? = some it.ent.gen ∧ it.ent.gen ≠ 1073741824 ∧ heldOf w.kinds it.comps = true
theorem wdErr_iff (w : Wd) : wdErr w = 0 ↔ WdOK w := by
  have hg : gensOk w.gens = true ↔ ∀ g ∈ w.gens, 0 ≤ g ∧ g ≤ 1073741824 := by
    unfold gensOk
    rw [List.all_eq_true]
    simp only [Bool.and_eq_true, decide_eq_true_eq]
  have hi := itemsFrom_iff (ks := w.kinds) (gens := w.gens) (l := w.items) (last := -1) (by omega)
  unfold wdErr
  constructor
  · intro h
    split at h
    · exact absurd h ‹_›
    rename_i h1
    split at h
    · cases h
    rename_i h2
    split at h
    · cases h
    rename_i h3
    split at h
    · cases h
    rename_i h4
    obtain ⟨h5, h6⟩ := hi.1 (by simpa using h4)
    exact ⟨by simpa using h1, by omega, by omega, hg.1 (by simpa using h3), h5, fun it hit => by obtain ⟨a, b⟩ := h6 it hit; exact ⟨by omega, b⟩⟩
  · intro h
    rw [if_neg (by simp [h.ks]), if_neg (by have := h.gl; have := h.il; omega), if_neg (by rw [hg.2 h.gs]; simp), if_neg (by rw [hi.2 ⟨h.so, fun it hit => by obtain ⟨a, b⟩ := h.it it hit; exact ⟨by omega, b⟩⟩]; simp)]
theorem cAt_pair (ks : List Kind) (l : List Int) (i : Nat) : (cAt ks l i).1.Pairwise fun a b => a.kind < b.kind := by
  induction i with
  | zero => exact .nil
  | succ i ih =>
    by_cases hi : i < ks.length
    · by_cases h2 : nextV (cAt ks l i).2 3 = 2
      · rw [cAt_no hi h2]; exact ih
      · rw [cAt_yes hi h2]
        refine List.pairwise_append.2 ⟨ih, List.pairwise_singleton .., fun a ha b hb => ?_⟩
        rw [List.mem_singleton.1 hb]
        obtain ⟨j, hj, q, hji, rfl⟩ := cAt_mem ha
        show (j : Int) < i
        omega
    · rw [cAt, List.getElem?_eq_none (by omega)]; exact ih
theorem vAt_fit {fs : List Field} (hf : ∀ f ∈ fs, fieldErr f = 0) (hr : ∀ f ∈ fs, FieldOK f) (l : List Int) : ∀ i, i ≤ fs.length → List.zipWith nearOf (fs.take i) (vAt fs l i).1 = (vAt fs l i).1 ∧ (vAt fs l i).1.length = i
  | 0, _ => ⟨rfl, rfl⟩
  | i + 1, h => by
    obtain ⟨h1, h2⟩ := vAt_fit hf hr l i (by omega)
    rw [vAt_next (by omega)]
    have hm := List.getElem_mem (l := fs) (n := i) (by omega)
    obtain ⟨hb0, hb1, _, _⟩ := hr _ hm
    have hp := pow_small (b := fs[i].bits.toNat) (by omega)
    have hv := nextV_range (vAt fs l i).2 (n := 2 ^ fs[i].bits.toNat) (by omega)
    have hh : highOf fs[i] = fs[i].low + (2 ^ fs[i].bits.toNat - 1) := by unfold highOf; rw [if_pos (hf _ hm)]
    refine ⟨?_, by rw [List.length_append, h2]; rfl⟩
    rw [List.take_succ_eq_append_getElem (by omega), List.zipWith_append (by rw [h2, List.length_take]; omega), h1]
    simp only [List.zipWith_cons_cons, List.zipWith_nil_left]
    rw [near_in (hf _ hm) (by omega) (by rw [hh]; omega)]
theorem vAt_holds {k : Kind} (h1 : oneErr k = 0) (hf : ∀ f ∈ k.fields, fieldErr f = 0) (hr : ∀ f ∈ k.fields, FieldOK f) (l : List Int) : holdsOf k (vAt k.fields l k.fields.length).1 = true := by
  obtain ⟨h2, h3⟩ := vAt_fit hf hr l k.fields.length (Nat.le_refl _)
  rw [List.take_length] at h2
  unfold holdsOf
  rw [fitOf_ok h1 h3, h2]
  simp
/-- Kinds as they are made. -/
structure KsGood (ks : List Kind) : Prop where
  one : ∀ k ∈ ks, oneErr k = 0
  fld : ∀ k ∈ ks, ∀ f ∈ k.fields, fieldErr f = 0
  rng : ∀ k ∈ ks, ∀ f ∈ k.fields, FieldOK f
theorem genKinds_good (l : List Int) : KsGood (genKinds l).1 :=
  ⟨genKinds_ok l, fun k hk => (genKinds_fields l k hk).1, fun k hk => ((genKinds_rng l).2 k hk).2⟩
theorem genComps_held {ks : List Kind} (h : KsGood ks) (l : List Int) : heldOf ks (genComps ks l).1 = true := by
  unfold heldOf
  rw [heldFrom_iff (by omega)]
  refine ⟨cAt_pair _ _ _, fun c hc => ?_⟩
  obtain ⟨j, hj, q, _, rfl⟩ := cAt_mem hc
  have hm := List.getElem_mem hj
  exact ⟨by show (-1 : Int) < (j : Int); omega, by show (j : Int) < _; omega, ks[j], List.getElem?_eq_getElem hj, vAt_holds (h.one _ hm) (h.fld _ hm) (h.rng _ hm) q⟩
theorem wAt_pair (ks : List Kind) (l : List Int) (i : Nat) : (wAt ks l i).2.1.Pairwise fun a b => a.ent.n < b.ent.n := by
  induction i with
  | zero => exact .nil
  | succ i ih =>
    rw [wAt]
    split
    · exact ih
    · refine List.pairwise_append.2 ⟨ih, List.pairwise_singleton .., fun a ha b hb => ?_⟩
      rw [List.mem_singleton.1 hb]
      obtain ⟨j, q, hji, _, e, _⟩ := wAt_mem ha
      show a.ent.n < (i : Int)
      omega
theorem wAt_gens (ks : List Kind) (l : List Int) (i : Nat) : ∀ g ∈ (wAt ks l i).1, 0 ≤ g ∧ g < 3 := by
  induction i with
  | zero => intro g hg; cases hg
  | succ i ih =>
    intro g hg
    rw [wAt] at hg
    have h3 := nextV_range (wAt ks l i).2.2 (n := 3) (by decide)
    split at hg <;>
    · rcases List.mem_append.1 hg with hg | hg
      · exact ih g hg
      · rw [List.mem_singleton.1 hg]; exact h3
/-- Made worlds are valid. -/
theorem genWorld_ok (l : List Int) : WdOK (genWorld l) := by
  have h := nextV_range (genKinds l).2 (n := 12) (by decide)
  have h1 := wAt_len2 (genKinds l).1 (nextL (genKinds l).2 12) (nextV (genKinds l).2 12).toNat
  have h2 := wAt_len1 (genKinds l).1 (nextL (genKinds l).2 12) (nextV (genKinds l).2 12).toNat
  have h3 := wAt_gens (genKinds l).1 (nextL (genKinds l).2 12) (nextV (genKinds l).2 12).toNat
  refine ⟨genKinds_check l, ?_, ?_, fun g hg => ?_, wAt_pair _ _ _, fun it hit => ?_⟩
  · exact Nat.le_trans (Nat.le_of_eq h2) (by omega)
  · exact Nat.le_trans h1 (Nat.le_of_eq h2.symm)
  · have := h3 g hg; omega
  · obtain ⟨j, q, hji, hg, hn, hc⟩ := wAt_mem hit
    have hjl : j < (wAt (genKinds l).1 (nextL (genKinds l).2 12) (nextV (genKinds l).2 12).toNat).1.length := (List.getElem?_eq_some_iff.1 hg).1
    have hgm := h3 _ (List.mem_of_getElem? hg)
    refine ⟨by omega, ?_, ?_, by omega, by rw [hc]; exact genComps_held (genKinds_good l) q⟩
    · rw [hn]; show (j : Int) < ((wAt _ _ _).1.length : Int); omega
    · rw [hn]; exact hg
end Go.Proofs.Ytcnfcilfacgnnaa

namespace Go.Proofs.Ytcnfcilfacgnnaa
set_option linter.unusedVariables false
section
variable {α : Type} {key : α → Int} {l a b : List α}
/-- In strictly increasing order of a key. -/
def KS (key : α → Int) (l : List α) : Prop := l.Pairwise fun a b => key a < key b
theorem ks_uniq (h : KS key l) {x y : α} (hx : x ∈ l) (hy : y ∈ l) (e : key x = key y) : x = y := by
  induction l with
  | nil => cases hx
  | cons z l ih =>
    obtain ⟨h1, h2⟩ := List.pairwise_cons.1 h
    rcases List.mem_cons.1 hx with q | q <;> rcases List.mem_cons.1 hy with r | r
    · rw [q, r]
    · subst q; have := h1 y r; omega
    · subst r; have := h1 x q; omega
    · exact ih h2 q r
theorem ks_ext : ∀ {a b : List α}, KS key a → KS key b → (∀ x, x ∈ a ↔ x ∈ b) → a = b
  | [], [], _, _, _ => rfl
  | [], y :: b, _, _, h => absurd ((h y).2 (by simp)) (by simp)
  | x :: a, [], _, _, h => absurd ((h x).1 (by simp)) (by simp)
  | x :: a, y :: b, ha, hb, h => by
    obtain ⟨a1, a2⟩ := List.pairwise_cons.1 ha
    obtain ⟨b1, b2⟩ := List.pairwise_cons.1 hb
    have e : x = y := by
      rcases List.mem_cons.1 ((h x).1 (by simp)) with e | h1
      · exact e
      · rcases List.mem_cons.1 ((h y).2 (by simp)) with e | h2
        · exact e.symm
        · have := b1 x h1; have := a1 y h2; omega
    subst e
    rw [ks_ext a2 b2 fun z => ?_]
    constructor
    · intro hz
      rcases List.mem_cons.1 ((h z).1 (by simp [hz])) with e | h1
      · have := a1 z hz; rw [e] at this; omega
      · exact h1
    · intro hz
      rcases List.mem_cons.1 ((h z).2 (by simp [hz])) with e | h1
      · have := b1 z hz; rw [e] at this; omega
      · exact h1
theorem split_at {i : Nat} {y : α} (hi : l[i]? = some y) : l = l.take i ++ y :: l.drop (i + 1) := by
  obtain ⟨h, rfl⟩ := List.getElem?_eq_some_iff.1 hi
  rw [← List.drop_eq_getElem_cons h, List.take_append_drop]
theorem ks_parts {i : Nat} {y : α} (h : KS key l) (hi : l[i]? = some y) : KS key (l.take i) ∧ KS key (l.drop (i + 1)) ∧ (∀ x ∈ l.take i, key x < key y) ∧ (∀ x ∈ l.drop (i + 1), key y < key x) ∧ ∀ x, x ∈ l ↔ x ∈ l.take i ∨ x = y ∨ x ∈ l.drop (i + 1) := by
  have e := split_at hi
  have h' := h
  rw [e] at h'
  obtain ⟨h1, h2, h3⟩ := List.pairwise_append.1 h'
  obtain ⟨h4, h5⟩ := List.pairwise_cons.1 h2
  refine ⟨h1, h5, fun x hx => h3 x hx y (by simp), h4, fun x => ?_⟩
  conv => lhs; rw [e]
  simp
theorem ks_set {i : Nat} {y z : α} (h : KS key l) (hi : l[i]? = some y) (hk : key z = key y) : KS key (l.set i z) ∧ ∀ x, x ∈ l.set i z ↔ x = z ∨ (x ∈ l ∧ key x ≠ key z) := by
  obtain ⟨h1, h2, h3, h4, h5⟩ := ks_parts h hi
  obtain ⟨hl, _⟩ := List.getElem?_eq_some_iff.1 hi
  have e : l.set i z = l.take i ++ z :: l.drop (i + 1) := List.set_eq_take_append_cons_drop.trans (if_pos hl)
  rw [e]
  refine ⟨List.pairwise_append.2 ⟨h1, List.pairwise_cons.2 ⟨fun x hx => by have := h4 x hx; omega, h2⟩, fun x hx w hw => ?_⟩, fun x => ?_⟩
  · rcases List.mem_cons.1 hw with rfl | hw
    · have := h3 x hx; omega
    · have := h3 x hx; have := h4 w hw; omega
  · rw [h5, List.mem_append, List.mem_cons]
    constructor
    · rintro (hx | rfl | hx)
      · exact .inr ⟨.inl hx, by have := h3 x hx; omega⟩
      · exact .inl rfl
      · exact .inr ⟨.inr (.inr hx), by have := h4 x hx; omega⟩
    · rintro (rfl | ⟨hx | rfl | hx, hn⟩)
      · exact .inr (.inl rfl)
      · exact .inl hx
      · exact absurd hk.symm hn
      · exact .inr (.inr hx)
theorem ks_find (h : KS key l) {n : Int} {x : α} : (l.find? fun y => decide (key y = n)) = some x ↔ x ∈ l ∧ key x = n := by
  constructor
  · intro e
    exact ⟨List.mem_of_find?_eq_some e, by simpa using List.find?_some e⟩
  · rintro ⟨hx, e⟩
    cases hf : l.find? fun y => decide (key y = n) with
    | none => rw [List.find?_eq_none] at hf; exact absurd (by simpa using e) (hf x hx)
    | some z => rw [ks_uniq h hx (List.mem_of_find?_eq_some hf) (by have := List.find?_some hf; simp at this; omega)]
end
theorem opt_ext {α : Type} {a b : Option α} (h : ∀ x, a = some x ↔ b = some x) : a = b := by
  cases a with
  | none => cases b with
    | none => rfl
    | some y => exact absurd ((h y).2 rfl) (by simp)
  | some x => exact ((h x).1 rfl).symm
/- Components. -/
theorem held_iff {ks : List Kind} {l : List Comp} : heldOf ks l = true ↔ SortC l ∧ ∀ c ∈ l, 0 ≤ c.kind ∧ c.kind < ks.length ∧ ∃ k, ks[c.kind.toNat]? = some k ∧ holdsOf k c.vals = true := by
  unfold heldOf
  rw [heldFrom_iff (by omega)]
  constructor
  · rintro ⟨h1, h2⟩
    exact ⟨h1, fun c hc => ⟨by have := (h2 c hc).1; omega, (h2 c hc).2⟩⟩
  · rintro ⟨h1, h2⟩
    exact ⟨h1, fun c hc => ⟨by have := (h2 c hc).1; omega, (h2 c hc).2⟩⟩
theorem insC_mem {c : Comp} : ∀ {l : List Comp}, SortC l → ∀ d, d ∈ insC l c ↔ d = c ∨ (d ∈ l ∧ d.kind ≠ c.kind)
  | [], _, d => by simp [insC]
  | x :: l, h, d => by
    obtain ⟨h1, h2⟩ := List.pairwise_cons.1 h
    rw [insC]
    split
    · rename_i hx
      rw [List.mem_cons, insC_mem h2, List.mem_cons]
      constructor
      · rintro (rfl | rfl | ⟨hd, hn⟩)
        · exact .inr ⟨.inl rfl, by omega⟩
        · exact .inl rfl
        · exact .inr ⟨.inr hd, hn⟩
      · rintro (rfl | ⟨rfl | hd, hn⟩)
        · exact .inr (.inl rfl)
        · exact .inl rfl
        · exact .inr (.inr ⟨hd, hn⟩)
    · split
      · rename_i hx
        rw [List.mem_cons, List.mem_cons]
        constructor
        · rintro (rfl | hd)
          · exact .inl rfl
          · exact .inr ⟨.inr hd, by have := h1 d hd; omega⟩
        · rintro (rfl | ⟨rfl | hd, hn⟩)
          · exact .inl rfl
          · exact absurd hx hn
          · exact .inr hd
      · rw [List.mem_cons, List.mem_cons]
        constructor
        · rintro (rfl | rfl | hd)
          · exact .inl rfl
          · exact .inr ⟨.inl rfl, by omega⟩
          · exact .inr ⟨.inr hd, by have := h1 d hd; omega⟩
        · rintro (rfl | ⟨hd, hn⟩)
          · exact .inl rfl
          · exact .inr hd
theorem insC_sort {c : Comp} : ∀ {l : List Comp}, SortC l → SortC (insC l c)
  | [], _ => List.pairwise_singleton ..
  | x :: l, h => by
    obtain ⟨h1, h2⟩ := List.pairwise_cons.1 h
    rw [insC]
    split
    · rename_i hx
      refine List.pairwise_cons.2 ⟨fun d hd => ?_, insC_sort h2⟩
      rcases (insC_mem h2 d).1 hd with rfl | ⟨hd, _⟩
      · exact hx
      · exact h1 d hd
    · split
      · rename_i hx
        exact List.pairwise_cons.2 ⟨fun d hd => by have := h1 d hd; omega, h2⟩
      · refine List.pairwise_cons.2 ⟨fun d hd => ?_, h⟩
        rcases List.mem_cons.1 hd with rfl | hd
        · omega
        · have := h1 d hd; omega
theorem sortC_ext {a b : List Comp} (ha : SortC a) (hb : SortC b) (h : ∀ x, x ∈ a ↔ x ∈ b) : a = b := ks_ext (key := Comp.kind) ha hb h
theorem compOf_iff {l : List Comp} (h : SortC l) {k : Int} {c : Comp} : compOf l k = some c ↔ c ∈ l ∧ c.kind = k := ks_find (key := Comp.kind) h
theorem insC_twice {l : List Comp} (h : SortC l) {c d : Comp} (e : c.kind = d.kind) : insC (insC l c) d = insC l d := by
  refine sortC_ext (insC_sort (insC_sort h)) (insC_sort h) fun x => ?_
  rw [insC_mem (insC_sort h), insC_mem h, insC_mem h]
  constructor
  · rintro (rfl | ⟨rfl | ⟨hx, _⟩, hn⟩)
    · exact .inl rfl
    · exact absurd e hn
    · exact .inr ⟨hx, hn⟩
  · rintro (rfl | ⟨hx, hn⟩)
    · exact .inl rfl
    · exact .inr ⟨.inr ⟨hx, by omega⟩, hn⟩
theorem compOf_ins {l : List Comp} (h : SortC l) (c : Comp) (k : Int) : compOf (insC l c) k = if k = c.kind then some c else compOf l k := by
  refine opt_ext fun x => ?_
  rw [compOf_iff (insC_sort h), insC_mem h]
  split
  · rename_i e
    subst e
    constructor
    · rintro ⟨rfl | ⟨_, hn⟩, hk⟩
      · rfl
      · exact absurd hk hn
    · intro hx
      cases hx
      exact ⟨.inl rfl, rfl⟩
  · rename_i e
    rw [compOf_iff h]
    constructor
    · rintro ⟨rfl | ⟨hx, _⟩, hk⟩
      · exact absurd hk.symm e
      · exact ⟨hx, hk⟩
    · rintro ⟨hx, hk⟩
      exact ⟨.inr ⟨hx, by omega⟩, hk⟩
theorem held_ins {ks : List Kind} {l : List Comp} {c : Comp} (h : heldOf ks l = true) (h1 : 0 ≤ c.kind) (h2 : c.kind < ks.length) {k : Kind} (h3 : ks[c.kind.toNat]? = some k) (h4 : holdsOf k c.vals = true) : heldOf ks (insC l c) = true := by
  obtain ⟨hs, hm⟩ := held_iff.1 h
  refine held_iff.2 ⟨insC_sort hs, fun d hd => ?_⟩
  rcases (insC_mem hs d).1 hd with rfl | ⟨hd, _⟩
  · exact ⟨h1, h2, k, h3, h4⟩
  · exact hm d hd
/- Fitting. -/
theorem kindsErr_one {pre ks : List Kind} (h : kindsErr pre ks = 0) : ∀ k ∈ ks, oneErr k = 0 := by
  induction ks generalizing pre with
  | nil => intro k hk; cases hk
  | cons x l ih =>
    intro k hk
    simp only [kindsErr] at h
    split at h
    · exact absurd h ‹_›
    · rename_i hx
      split at h
      · cases h
      · rcases List.mem_cons.1 hk with rfl | hk
        · simpa using hx
        · exact ih h k hk
theorem checkErr_one {ks : List Kind} (h : checkErr ks = 0) : ks.length ≤ 16 ∧ ∀ k ∈ ks, oneErr k = 0 := by
  unfold checkErr at h
  split at h
  · cases h
  · exact ⟨by omega, kindsErr_one h⟩
/-- The component with fitted values. -/
def fitC (ks : List Kind) (c : Comp) : Comp := match ks[c.kind.toNat]? with
  | some k => ⟨c.kind, (fitOf k c.vals).1⟩
  | none => c
theorem fitC_kind (ks : List Kind) (c : Comp) : (fitC ks c).kind = c.kind := by unfold fitC; split <;> rfl
/-- A component that fits. -/
def FitOK (ks : List Kind) (c : Comp) : Prop := 0 ≤ c.kind ∧ c.kind < ks.length ∧ ∃ k, ks[c.kind.toNat]? = some k ∧ (fitOf k c.vals).2 = 0
theorem fitC_eq {ks : List Kind} {c : Comp} {k : Kind} (h : ks[c.kind.toNat]? = some k) : fitC ks c = ⟨c.kind, (fitOf k c.vals).1⟩ := by
  unfold fitC; rw [h]
theorem fitGo_good {ks : List Kind} : ∀ {l pre out : List Comp}, (∀ c ∈ l, FitOK ks c) → l.Pairwise (fun a b => a.kind ≠ b.kind) → (∀ a ∈ pre, ∀ b ∈ l, a.kind ≠ b.kind) → fitGo ks pre out l = (out ++ l.map (fitC ks), 0)
  | [], pre, out, _, _, _ => by simp [fitGo]
  | c :: l, pre, out, h1, h2, h3 => by
    obtain ⟨a, b, k, hk, hf⟩ := h1 c (by simp)
    obtain ⟨h4, h5⟩ := List.pairwise_cons.1 h2
    have hany : pre.any (fun o => decide (o.kind = c.kind)) = false := by
      rw [List.any_eq_false]
      intro x hx
      simpa using h3 x hx c (by simp)
    rw [fitGo, if_neg (by omega), hany, if_neg (by simp), hk]
    dsimp only
    rw [if_neg (by simp [hf]), fitGo_good (fun d hd => h1 d (by simp [hd])) h5 (fun x hx d hd => ?_), List.map_cons, fitC_eq hk]
    · simp
    · rcases List.mem_append.1 hx with hx | hx
      · exact h3 x hx d (by simp [hd])
      · rw [List.mem_singleton.1 hx]; exact h4 d hd
theorem wFit_good {ks : List Kind} (hk : checkErr ks = 0) {l : List Comp} (h1 : ∀ c ∈ l, FitOK ks c) (h2 : l.Pairwise (fun a b => a.kind ≠ b.kind)) : wFit ks l = (kSort (l.map (fitC ks)), 0) := by
  unfold wFit
  rw [if_neg (by simp [hk]), fitGo_good h1 h2 (fun _ h => by cases h), if_neg (by simp)]
  rfl
theorem kSort_of {l : List Comp} (h : SortC l) : kSort l = l :=
  (kSort_uniq (h.imp fun h => by omega) (List.Perm.refl _) (h.imp fun h => by omega)).symm
theorem holds_fit {k : Kind} {v : List Int} (h : holdsOf k v = true) : fitOf k v = (v, 0) := by
  unfold holdsOf at h
  simp only [Bool.and_eq_true, decide_eq_true_eq] at h
  exact Prod.ext h.2 h.1
theorem fitOf_holds {k : Kind} {v : List Int} (h : (fitOf k v).2 = 0) : holdsOf k (fitOf k v).1 = true ∧ (fitOf k v).1 = List.zipWith nearOf k.fields v ∧ v.length = k.fields.length := by
  unfold fitOf at h ⊢
  split at h
  · exact absurd h ‹_›
  · rename_i h1
    have h1 : oneErr k = 0 := by simpa using h1
    split at h
    · cases h
    · rename_i h2
      have h2 : v.length = k.fields.length := by simpa using h2
      rw [if_neg (by simp [h1]), if_neg (by simp [h2])]
      refine ⟨?_, rfl, h2⟩
      unfold holdsOf
      rw [fitOf_ok h1 (by simp [h2]), near_fits (oneErr_zero h1).2.2]
      simp
theorem wFit_one {ks : List Kind} (hk : checkErr ks = 0) {c : Comp} (h : FitOK ks c) : wFit ks [c] = ([fitC ks c], 0) := by
  rw [wFit_good hk (fun d hd => by rw [List.mem_singleton.1 hd]; exact h) (List.pairwise_singleton ..)]
  show (kSort [fitC ks c], (0 : Int)) = _
  rw [kSort_of (List.pairwise_singleton ..)]
theorem fitC_holds {ks : List Kind} {c : Comp} (h : FitOK ks c) : ∃ k, ks[(fitC ks c).kind.toNat]? = some k ∧ holdsOf k (fitC ks c).vals = true := by
  obtain ⟨_, _, k, hk, hf⟩ := h
  refine ⟨k, by rw [fitC_kind]; exact hk, ?_⟩
  rw [fitC_eq hk]
  exact (fitOf_holds hf).1
/- Items. -/
def SortI (l : List Item) : Prop := KS (fun it => it.ent.n) l
def itemOf (l : List Item) (e : Ent) : Option Item := l.find? fun it => decide (it.ent = e)
theorem itemOf_iff {l : List Item} (h : SortI l) {e : Ent} {x : Item} : itemOf l e = some x ↔ x ∈ l ∧ x.ent = e := by
  unfold itemOf
  constructor
  · intro e
    exact ⟨List.mem_of_find?_eq_some e, by simpa using List.find?_some e⟩
  · rintro ⟨hx, e⟩
    cases hf : l.find? fun y => decide (y.ent = _) with
    | none => rw [List.find?_eq_none] at hf; exact absurd (by simpa using e) (hf x hx)
    | some z => rw [ks_uniq h hx (List.mem_of_find?_eq_some hf) (by have := List.find?_some hf; simp at this; rw [e, this])]
theorem findE_at {l : List Item} (h : SortI l) {i : Nat} {it : Item} (hi : l[i]? = some it) : findE l it.ent = i := by
  by_cases hn : findE l it.ent < 0
  · have := findE_none hn
    rw [List.find?_eq_none] at this
    exact absurd (by simp) (this it (List.mem_of_getElem? hi))
  · obtain ⟨n, hn⟩ : ∃ n : Nat, findE l it.ent = n := ⟨(findE l it.ent).toNat, by omega⟩
    obtain ⟨x, hx, _, e⟩ := findE_some hn
    rw [hn]
    have e2 := ks_uniq h (List.mem_of_getElem? hx) (List.mem_of_getElem? hi) (by rw [e])
    subst e2
    obtain ⟨a, ha⟩ := List.getElem?_eq_some_iff.1 hx
    obtain ⟨b, hb⟩ := List.getElem?_eq_some_iff.1 hi
    have hp := List.pairwise_iff_getElem.1 h
    rcases Nat.lt_trichotomy n i with q | q | q
    · have := hp n i a b q; rw [ha, hb] at this; omega
    · rw [q]
    · have := hp i n b a q; rw [ha, hb] at this; omega
theorem getOf_valid {w : Wd} (h : WdOK w) (e : Ent) (k : Int) : getOf w e k = match itemOf w.items e with
    | none => ([], 4)
    | some it => match compOf it.comps k with
      | none => ([], 4)
      | some c => (c.vals, 0) := by
  unfold getOf
  rw [if_neg (by simp [(wdErr_iff w).2 h])]
  rfl
theorem setItem_at {w : Wd} {i : Nat} {it : Item} (hi : w.items[i]? = some it) (cs : List Comp) : setItem w i cs = ⟨w.kinds, w.gens, w.items.set i ⟨it.ent, cs⟩⟩ := by
  unfold setItem; rw [hi]
theorem setItem_ok {w : Wd} (h : WdOK w) {i : Nat} {it : Item} (hi : w.items[i]? = some it) {cs : List Comp} (hc : heldOf w.kinds cs = true) : WdOK (setItem w i cs) := by
  rw [setItem_at hi]
  obtain ⟨h1, h2⟩ := ks_set (key := fun it : Item => it.ent.n) h.so hi (z := ⟨it.ent, cs⟩) rfl
  refine ⟨h.ks, h.gl, by simpa using h.il, h.gs, h1, fun x hx => ?_⟩
  rcases (h2 x).1 hx with rfl | ⟨hx, _⟩
  · obtain ⟨a, b, c, d, e⟩ := h.it it (List.mem_of_getElem? hi)
    exact ⟨a, b, c, d, hc⟩
  · exact h.it x hx
theorem itemOf_set {w : Wd} (h : WdOK w) {i : Nat} {it : Item} (hi : w.items[i]? = some it) (cs : List Comp) (e : Ent) : itemOf (setItem w i cs).items e = if e = it.ent then some ⟨it.ent, cs⟩ else itemOf w.items e := by
  rw [setItem_at hi]
  obtain ⟨h1, h2⟩ := ks_set (key := fun it : Item => it.ent.n) h.so hi (z := ⟨it.ent, cs⟩) rfl
  refine opt_ext fun x => ?_
  rw [itemOf_iff h1, h2]
  split
  · rename_i e
    subst e
    constructor
    · rintro ⟨rfl | ⟨_, hn⟩, hk⟩
      · rfl
      · exact absurd (by rw [hk]) hn
    · intro hx
      cases hx
      exact ⟨.inl rfl, rfl⟩
  · rename_i en
    rw [itemOf_iff h.so]
    constructor
    · rintro ⟨rfl | ⟨hx, _⟩, hk⟩
      · exact absurd hk.symm en
      · exact ⟨hx, hk⟩
    · rintro ⟨hx, hk⟩
      refine ⟨.inr ⟨hx, fun hn => en ?_⟩, hk⟩
      rw [← hk, ks_uniq h.so hx (List.mem_of_getElem? hi) hn]
theorem setItem_set {w : Wd} {i : Nat} {it : Item} (hi : w.items[i]? = some it) (a b : List Comp) : setItem (setItem w i a) i b = setItem w i b ∧ (setItem w i a).items[i]? = some ⟨it.ent, a⟩ := by
  have hl := (List.getElem?_eq_some_iff.1 hi).1
  have h2 : (w.items.set i ⟨it.ent, a⟩)[i]? = some ⟨it.ent, a⟩ := by rw [List.getElem?_set_self hl]
  rw [setItem_at hi, setItem_at hi, setItem_at (w := ⟨w.kinds, w.gens, w.items.set i ⟨it.ent, a⟩⟩) h2]
  exact ⟨by simp, h2⟩
theorem putOf_ok {w : Wd} (h : WdOK w) {i : Nat} {it : Item} (hi : w.items[i]? = some it) {c : Comp} (hc : FitOK w.kinds c) : putOf w it.ent c = (setItem w i (insC it.comps (fitC w.kinds c)), 0) := by
  unfold putOf
  have hf := findE_at h.so hi
  rw [if_neg (by simp [(wdErr_iff w).2 h]), hf, if_neg (by omega), wFit_one h.ks hc, if_neg (by simp), Int.toNat_natCast, hi]
theorem put_ok {w : Wd} (h : WdOK w) {i : Nat} {it : Item} (hi : w.items[i]? = some it) {c : Comp} (hc : FitOK w.kinds c) : WdOK (setItem w i (insC it.comps (fitC w.kinds c))) := by
  obtain ⟨k, hk, hh⟩ := fitC_holds hc
  have hit := h.it it (List.mem_of_getElem? hi)
  have hcc := hc
  obtain ⟨a, b, _⟩ := hcc
  exact setItem_ok h hi (held_ins hit.2.2.2.2 (by rw [fitC_kind]; exact a) (by rw [fitC_kind]; exact b) hk hh)
theorem getOf_at {w : Wd} (h : WdOK w) {i : Nat} {it : Item} (hi : w.items[i]? = some it) (k : Int) : getOf w it.ent k = match compOf it.comps k with
      | none => ([], 4)
      | some c => (c.vals, 0) := by
  rw [getOf_valid h, (itemOf_iff h.so).2 ⟨List.mem_of_getElem? hi, rfl⟩]
/-- The law WorldGets. -/
theorem gets_law {w : Wd} (h : WdOK w) {i : Nat} {it : Item} (hi : w.items[i]? = some it) {c d : Comp} (hc : FitOK w.kinds c) (hd : FitOK w.kinds d) (hcd : c.kind = d.kind) :
    ∃ v, putOf w it.ent c = (v, 0) ∧ WdOK v ∧ v.kinds = w.kinds ∧ v.gens = w.gens ∧ v.items.length = w.items.length ∧ getOf v it.ent c.kind = ((fitC w.kinds c).vals, 0) ∧
    (∀ x : Ent, ∀ k : Int, ¬ (x = it.ent ∧ k = c.kind) → getOf w x k = getOf v x k) ∧ ∃ u, putOf v it.ent d = (u, 0) ∧ putOf w it.ent d = (u, 0) ∧ WdOK u := by
  have hs := (held_iff.1 (h.it it (List.mem_of_getElem? hi)).2.2.2.2).1
  have hv := put_ok h hi hc
  obtain ⟨_, hi2⟩ := setItem_set hi (insC it.comps (fitC w.kinds c)) []
  have hkv : (setItem w i (insC it.comps (fitC w.kinds c))).kinds = w.kinds := rfl
  refine ⟨_, putOf_ok h hi hc, hv, rfl, rfl, ?_, ?_, fun x k hn => ?_, setItem w i (insC it.comps (fitC w.kinds d)), ?_, putOf_ok h hi hd, put_ok h hi hd⟩
  · rw [setItem_at hi]; simp
  · have := getOf_at hv hi2 c.kind
    dsimp only at this
    rw [this, compOf_ins hs, if_pos (fitC_kind ..).symm]
  · rw [getOf_valid h, getOf_valid hv, itemOf_set h hi]
    by_cases e : x = it.ent
    · rw [if_pos e, e, (itemOf_iff h.so).2 ⟨List.mem_of_getElem? hi, rfl⟩]
      dsimp only
      rw [compOf_ins hs, if_neg (fun e2 => hn ⟨e, by rw [e2, fitC_kind]⟩)]
    · rw [if_neg e]
  · have := putOf_ok hv hi2 (c := d) hd
    dsimp only at this
    rw [this, hkv, insC_twice hs (by rw [fitC_kind, fitC_kind]; exact hcd), (setItem_set hi _ _).1]
theorem wFit_sing {ks : List Kind} {c : Comp} (h : (wFit ks [c]).2 = 0) : ∃ d, (wFit ks [c]).1 = [d] ∧ d.kind = c.kind ∧ 0 ≤ c.kind ∧ c.kind < ks.length := by
  unfold wFit at h ⊢
  split at h
  · exact absurd h ‹_›
  · rename_i h1
    rw [if_neg h1]
    split at h
    · exact absurd h ‹_›
    · rename_i h2
      rw [if_neg h2]
      have h2 : (fitGo ks [] [] [c]).2 = 0 := by simpa using h2
      rw [fitGo] at h2 ⊢
      split at h2
      · cases h2
      · rename_i g1
        rw [if_neg g1]
        rw [if_neg (by simp)] at h2 ⊢
        split at h2
        · cases h2
        · rename_i k hk
          split at h2
          · exact absurd h2 ‹_›
          · rename_i g3
            (try simp only [hk])
            rw [if_neg g3, fitGo]
            refine ⟨⟨c.kind, (fitOf k c.vals).1⟩, ?_, rfl, by omega, by omega⟩
            show kSort [_] = _
            exact kSort_of (List.pairwise_singleton ..)
theorem held_small {ks : List Kind} (hk : checkErr ks = 0) {l : List Comp} (h : heldOf ks l = true) : l.length ≤ 16 ∧ ∀ c ∈ l, c.vals.length ≤ 8 := by
  obtain ⟨hs, hm⟩ := held_iff.1 h
  obtain ⟨h16, ho⟩ := checkErr_one hk
  refine ⟨Nat.le_trans (nodup_le Comp.kind _ _ (hs.imp fun h => by omega) fun c hc => ⟨(hm c hc).1, (hm c hc).2.1⟩) h16, fun c hc => ?_⟩
  obtain ⟨_, _, k, hk2, hh⟩ := hm c hc
  have h8 := (oneErr_zero (ho k (List.mem_of_getElem? hk2))).2.1
  have := fitOf_holds (k := k) (v := c.vals) (by rw [holds_fit hh])
  omega
/-- Valid worlds are small. -/
theorem WdOK.wl {w : Wd} (h : WdOK w) : WdL w := by
  obtain ⟨h16, ho⟩ := checkErr_one h.ks
  refine ⟨⟨by omega, fun k hk => by have := (oneErr_zero (ho k hk)).2.1; omega⟩, by have := h.gl; omega, by have := h.gl; have := h.il; omega, fun it hit => ?_⟩
  obtain ⟨h1, h2⟩ := held_small h.ks (h.it it hit).2.2.2.2
  exact ⟨by omega, fun c hc => by have := h2 c hc; omega⟩
theorem genKinds_pos (l : List Int) : 0 < (genKinds l).1.length := by
  have h := nextV_range l (n := 4) (by decide)
  have : ∀ i c q, (genKindsFrom i c q).1.length = c := by
    intro i c
    induction c generalizing i with
    | zero => intro q; rfl
    | succ c ih => intro q; simp only [genKindsFrom, List.length_cons, ih]
  unfold genKinds
  rw [this]
  omega
/- Places. -/
theorem tw_len {α : Type} {p : α → Bool} : ∀ {l : List α} {i : Nat}, i ≤ l.length → (∀ (j : Nat) (x : α), j < i → l[j]? = some x → p x = true) → (∀ x, l[i]? = some x → p x = false) → (l.takeWhile p).length = i
  | [], i, h, _, _ => by have : i = 0 := by simpa using h
                         subst this; rfl
  | x :: l, 0, _, _, h2 => by rw [List.takeWhile_cons, h2 x rfl]; rfl
  | x :: l, i + 1, h, h1, h2 => by
    rw [List.takeWhile_cons, h1 0 x (by omega) rfl]
    show (l.takeWhile p).length + 1 = i + 1
    rw [tw_len (i := i) (by simpa using h) (fun j y hj hy => h1 (j + 1) y (by omega) hy) (fun y hy => h2 y hy)]
theorem found_at {l : List Comp} (hs : SortC l) {k : Int} {b : Nat × Bool} (h : Found (fun c : Comp => cmpI c.kind k) l b) : b = (compAt l k, (compOf l k).isSome) := by
  obtain ⟨m1, m2⟩ := h.mono (sortC_mono hs k)
  have e1 : compAt l k = b.1 := tw_len h.le (fun j x hj hx => by have := m1 j x hj hx; rw [cmpI_lt] at this; simpa using this) (fun x hx => by have := m2 b.1 x (Nat.le_refl _) hx; rw [cmpI_lt] at this; simpa using this)
  refine Prod.ext e1.symm ?_
  cases hb : b.2
  · rw [compOf_no (found_no h hs hb)]; rfl
  · obtain ⟨c, hc, hk⟩ := found_yes h hb
    rw [compOf_yes hs (List.mem_of_getElem? hc) hk]; rfl
theorem insC_at {d : Comp} : ∀ {l : List Comp}, SortC l → insC l d = if (compOf l d.kind).isSome then l.set (compAt l d.kind) d else l.take (compAt l d.kind) ++ d :: l.drop (compAt l d.kind)
  | [], _ => rfl
  | x :: l, h => by
    obtain ⟨h1, h2⟩ := List.pairwise_cons.1 h
    have ih := insC_at (d := d) h2
    have ec : compOf (x :: l) d.kind = if x.kind = d.kind then some x else compOf l d.kind := by
      unfold compOf; rw [List.find?_cons]; by_cases e : x.kind = d.kind <;> simp [e]
    have ea : compAt (x :: l) d.kind = if x.kind < d.kind then compAt l d.kind + 1 else 0 := by
      unfold compAt; rw [List.takeWhile_cons]; by_cases e : x.kind < d.kind <;> simp [e]
    rw [insC, ec, ea]
    by_cases e1 : x.kind < d.kind
    · have e3 : ¬ x.kind = d.kind := by omega
      rw [if_pos e1, if_pos e1, if_neg e3, ih]
      split <;> simp
    · rw [if_neg e1, if_neg e1]
      by_cases e2 : x.kind = d.kind
      · rw [if_pos e2, if_pos e2]; rfl
      · rw [if_neg e2, if_neg e2, compOf_no (fun c hc => by have := h1 c hc; omega)]; rfl
theorem compAt_le (l : List Comp) (k : Int) : compAt l k ≤ l.length := by unfold compAt; exact (List.takeWhile_sublist _).length_le
theorem compAt_lt {k : Int} : ∀ {l : List Comp}, SortC l → (compOf l k).isSome = true → compAt l k < l.length
  | [], _, hn => by cases hn
  | x :: l, h, hn => by
    obtain ⟨h1, h2⟩ := List.pairwise_cons.1 h
    have ec : compOf (x :: l) k = if x.kind = k then some x else compOf l k := by
      unfold compOf; rw [List.find?_cons]; by_cases e : x.kind = k <;> simp [e]
    have ea : compAt (x :: l) k = if x.kind < k then compAt l k + 1 else 0 := by
      unfold compAt; rw [List.takeWhile_cons]; by_cases e : x.kind < k <;> simp [e]
    rw [ec] at hn
    rw [ea]
    split
    · rename_i e
      have e2 : ¬ x.kind = k := by omega
      rw [if_neg e2] at hn
      have := compAt_lt h2 hn
      simp; omega
    · simp
end Go.Proofs.Ytcnfcilfacgnnaa

namespace Go.Proofs.Ytcnfcilfacgnnaa
set_option linter.unusedVariables false
set_option maxHeartbeats 1000000 in
theorem insertP_sp (X V n i : Nat) (l : List AV) (e : AV) (hn : n = l.length) (hi : i ≤ n) (hb : (n + 1) * 32 ≤ 140737488355328) (hfr : FreeL l) (hfe : FreeE e) (hw : ∀ x ∈ l, x.width = 2) (hwe : e.width = 2) (hze : AV.frzs [e] = [e]) :
    Spec Try.prog 45 [.sl X 0 n, iA i, .sl V 0 1] [(X, .row 34 2 l), (V, .row 34 2 [e])] fun r S' => r = .lst true 34 2 (l.take i ++ e :: l.drop i) ∧ S' = [] := by
  refine Spec.of (nt := 95) (res := [.tmp 6]) Try.func45 rfl (by kernel_rfl) rfl rfl rfl fun Sf => ?_
  have hfV : FreeL [e] := fun x hx => by rw [List.mem_singleton.1 hx]; exact hfe
  have hwV : ∀ x ∈ [e], x.width = 2 := fun x hx => by rw [List.mem_singleton.1 hx]; exact hwe
  (repeat refine WF ?_); refine AWP.region ?_; (repeat (first | refine WO ?_ | refine All.i fun X => ?_ | refine AllY.i fun Y => ?_)); refine AOps.nil ?_; (repeat refine WN ?_)
  (repeat refine WF ?_); refine AWP.region ?_; (repeat (first | (refine AOps.gN ?_; first | refine AOps.p (W.slice_lo rfl rfl (by exact At.f) rfl (by omega)) rfl ?_) | refine WO ?_ | refine All.i fun X => ?_ | refine AllY.i fun Y => ?_)); refine AOps.nil ?_; (repeat refine WN ?_)
  (repeat refine WF ?_); refine AWP.region ?_; (repeat (first | refine WO ?_ | refine All.i fun X => ?_ | refine AllY.i fun Y => ?_)); refine AOps.nil ?_; (repeat refine WN ?_)
  (repeat refine WF ?_); refine AWP.region ?_; (repeat (first | refine WO ?_ | refine All.i fun X => ?_ | refine AllY.i fun Y => ?_)); refine AOps.nil ?_; (repeat refine WN ?_)
  refine AWP.cond_f rfl rfl ?_
  (repeat refine WF ?_); refine AWP.region ?_; (repeat (first | refine WO ?_ | refine All.i fun X => ?_ | refine AllY.i fun Y => ?_)); refine AOps.nil ?_; (repeat refine WN ?_)
  (repeat refine WF ?_); refine AWP.region ?_; (repeat (first | refine WO ?_ | refine All.i fun X => ?_ | refine AllY.i fun Y => ?_)); refine AOps.nil ?_; (repeat refine WN ?_)
  by_cases hin : i = n
  · refine AWP.cond_t rfl (decide_eq_true (by omega)) ?_
    refine AWP.iceL 2 [e] hze ?_
    have hbb : (n + [e].length) * 32 ≤ 140737488355328 := hb
    (repeat (first | refine WK ?_ | refine All.i fun X => ?_ | refine AllY.i fun Y => ?_))
    (refine AWP.ret ?_; (repeat (first | refine inB_r ?_ | refine andThen_r ?_)); refine retQ_r ?_)
    have hm : n + [e].length = (l ++ [e]).length := by rw [List.length_append, hn]
    have hr : l ++ [e] = l.take i ++ e :: l.drop i := by rw [hin, hn, List.take_length, List.drop_length]
    rw [← hr]
    exact ⟨[.sl Y 0 (n + [e].length)], [.lst true 34 2 (l ++ [e])], _, [], .cons (.tmp rfl) rfl .nil, .cons (.cell (.sl (p := 0) .here hm)) .nil, by exact Sub.f, rfl, rfl⟩
  · refine AWP.cond_f rfl (decide_eq_false (by omega)) ?_
    refine AWP.cap X fun Z c u0 hc hnc => ?_
    (repeat refine WF ?_); refine AWP.region ?_; (repeat (first | (refine AOps.gN ?_; first | refine AOps.p (W.cap hc rfl (by exact At.f) (by exact At.f)) rfl ?_) | refine WO ?_ | refine All.i fun X => ?_ | refine AllY.i fun Y => ?_)); refine AOps.nil ?_; (repeat refine WN ?_)
    refine AWP.cond rfl (fun hg => ?_) (fun hg => ?_)
    · have hcn : c < n + 1 := by rw [decide_eq_true_eq] at hg; omega
      refine AWP.rs fun Y => ?_
      (repeat refine WF ?_); refine AWP.region ?_; (repeat (first | (refine AOps.gN ?_; first | refine AOps.p (W.hi (a := i) rfl rfl (by exact At.f) rfl hi) rfl ?_ | refine AOps.p (W.subE ((n + 1 - i : Nat) : Int) (by omega) (by omega) rfl rfl) rfl ?_ | refine AOps.s (W.appzG (n + 1 - i) hc rfl rfl (by exact At.f) (by exact At.f) (by exact At.f) rfl (by exact .inl rfl) (by rfl) (by kernel_rfl) (by omega) (by omega) (by decide) (by omega) (by omega) hfr) rfl ?_) | refine WO ?_ | refine All.i fun X => ?_ | refine AllY.i fun Y => ?_))
      have hsum : i + (n + 1 - i) = n + 1 := by omega
      obtain ⟨l1, hl1⟩ : ∃ l1, l.take i ++ List.replicate (n + 1 - i) (zAV [.int .i64 0, .slice none 0 0] true) = l1 := ⟨_, rfl⟩
      have hti : (l.take i).length = i := by rw [List.length_take]; omega
      have hl1n : l1.length = n + 1 := by rw [← hl1, List.length_append, hti, List.length_replicate, hsum]
      have hfr1 : FreeL l1 := fun x hx => by
        rw [← hl1] at hx
        rcases List.mem_append.1 hx with hx | hx
        · exact hfr x (List.mem_of_mem_take hx)
        · rw [List.eq_of_mem_replicate hx]
          exact FreeE.agg (us := [.prim (.int .i64 0), .prim (.slice none 0 0)]) fun y hy => by
            simp only [List.mem_cons, List.not_mem_nil, or_false] at hy
            rcases hy with rfl | rfl <;> exact FreeE.prim _
      have htk : l1.take i = l.take i := by rw [← hl1, List.take_left' hti]
      rw [hl1, hsum]
      (repeat first | refine AOps.nil ?_ | refine WF ?_)
      (repeat refine WF ?_); refine AWP.region ?_; (repeat (first | (refine AOps.gN ?_; first | refine AOps.p (W.slice_lo rfl rfl (by exact At.f) rfl (by omega)) rfl ?_ | refine AOps.s (W.copyO 1 rfl rfl (by exact At.f) (by exact At.f) (by rfl) (by omega) (by omega) (by omega) (by omega) (by exact Nat.le_refl _) hfr1 hfV hwV) rfl ?_) | refine WO ?_ | refine All.i fun X => ?_ | refine AllY.i fun Y => ?_))
      obtain ⟨l2, hl2⟩ : ∃ l2, l1.take (0 + i) ++ ([e].drop 0).take 1 ++ l1.drop (0 + i + 1) = l2 := ⟨_, rfl⟩
      rw [hl2]
      have hl2n : l2.length = n + 1 := by rw [← hl2]; simp only [List.length_append, List.length_take, List.length_drop, List.length_singleton]; omega
      have hfr2 : FreeL l2 := fun x hx => by
        rw [← hl2] at hx
        rcases List.mem_append.1 hx with hx | hx
        · rcases List.mem_append.1 hx with hx | hx
          · exact hfr1 x (List.mem_of_mem_take hx)
          · exact hfV x (List.mem_of_mem_drop (List.mem_of_mem_take hx))
        · exact hfr1 x (List.mem_of_mem_drop hx)
      have htk2 : l2.take (0 + (i + 1)) = l.take i ++ [e] := by
        rw [← hl2, Nat.zero_add, Nat.zero_add, htk]
        exact List.take_left' (by simp [hti])
      (repeat first | refine AOps.nil ?_ | refine WF ?_)
      (repeat refine WF ?_); refine AWP.region_run (by kernel_rfl) (by kernel_rfl) ?_; (repeat (first | (refine RGo.gN ?_; first | refine RGo.go (h := W.addE ((i + 1 : Nat) : Int) (by omega) (by omega) rfl rfl) (k := ?_) | refine RGo.go (h := W.slice_lo rfl rfl (by exact At.f) rfl (by omega)) (k := ?_) | refine RGo.goS (h := W.copyO (n - i) rfl rfl (by exact At.f) (by exact At.f) (by rfl) (by omega) (by omega) (by omega) (by omega) (by omega) hfr2 hfr hw) (k := ?_)) | (refine RGo.gQ ?_; first | refine RGo.go (h := W.addE ((i + 1 : Nat) : Int) (by omega) (by omega) rfl rfl) (k := ?_) | refine RGo.go (h := W.slice_lo rfl rfl (by exact At.f) rfl (by omega)) (k := ?_) | refine RGo.goS (h := W.copyO (n - i) rfl rfl (by exact At.f) (by exact At.f) (by rfl) (by omega) (by omega) (by omega) (by omega) (by omega) hfr2 hfr hw) (k := ?_)) | refine RK ?_ | refine RGo.nil (by kernel_rfl) ?_))
      obtain ⟨l3, hl3⟩ : ∃ l3, l2.take (0 + (i + 1)) ++ (l.drop (0 + i)).take (n - i) ++ l2.drop (0 + (i + 1) + (n - i)) = l3 := ⟨_, rfl⟩
      rw [hl3]
      have hr : l3 = l.take i ++ e :: l.drop i := by
        have e1 : l2.drop (0 + (i + 1) + (n - i)) = [] := List.drop_of_length_le (by omega)
        have e2 : (l.drop (0 + i)).take (n - i) = l.drop i := by rw [Nat.zero_add]; exact List.take_of_length_le (by rw [List.length_drop]; omega)
        rw [← hl3, htk2, e1, e2, List.append_nil, List.append_assoc]; rfl
      have hm : n + 1 = l3.length := by
        rw [hr]; simp only [List.length_append, List.length_cons, List.length_drop, hti]; omega
      (repeat (first | refine WK ?_ | refine All.i fun X => ?_ | refine AllY.i fun Y => ?_))
      (refine AWP.ret ?_; (repeat (first | refine inB_r ?_ | refine andThen_r ?_)); refine retQ_r ?_)
      rw [← hr]
      exact ⟨[.sl Y 0 (n + 1)], [.lst true 34 2 l3], _, [], .cons (.tmp rfl) rfl .nil, .cons (.cell (.sl (p := 0) .here hm)) .nil, by exact Sub.f, rfl, rfl⟩
    · have hcn : n + 1 ≤ c := by rw [decide_eq_false_iff_not] at hg; omega
      (repeat refine WF ?_); refine AWP.region ?_; (repeat (first | (refine AOps.gN ?_; first | refine AOps.p (W.sliceC (n + 1) hc rfl rfl (by exact At.f) (by exact At.f) (by omega) hcn) rfl ?_) | refine WO ?_ | refine All.i fun X => ?_ | refine AllY.i fun Y => ?_)); refine AOps.nil ?_; (repeat refine WN ?_)
      (repeat refine WF ?_); refine AWP.region ?_; (repeat (first | (refine AOps.gN ?_; first | refine AOps.p (W.addE ((i + 1 : Nat) : Int) (by omega) (by omega) rfl rfl) rfl ?_ | refine AOps.p (W.slice_lo rfl rfl (by exact At.f) rfl (by omega)) rfl ?_) | refine WO ?_ | refine All.i fun X => ?_ | refine AllY.i fun Y => ?_))
      refine AOps.p (W.over (t := 46) (tR := 4) Try.func83 (by kernel_rfl) (by kernel_rfl) (by kernel_rfl) (by kernel_rfl) rfl rfl (by exact At.f) (by exact At.f) (by rfl) (by decide) (by omega) (by omega)) rfl ?_
      (repeat (first | refine WO ?_ | refine All.i fun X => ?_ | refine AllY.i fun Y => ?_))
      (repeat first | refine AOps.nil ?_ | refine WF ?_)
      refine AWP.cond_t rfl rfl ?_
      (repeat refine WF ?_); refine AWP.region_run (by kernel_rfl) (by kernel_rfl) ?_; (repeat (first | (refine RGo.gN ?_; first | refine RGo.go (h := W.addE ((i + 1 : Nat) : Int) (by omega) (by omega) rfl rfl) (k := ?_) | refine RGo.go (h := W.slice_lo rfl rfl (by exact At.f) rfl (by omega)) (k := ?_) | refine RGo.goS (h := W.copyS (n - i) rfl rfl (by exact At.f) (by omega) (by omega) (by omega) (by omega) (by omega) hfr hw) (k := ?_)) | (refine RGo.gQ ?_; first | refine RGo.go (h := W.addE ((i + 1 : Nat) : Int) (by omega) (by omega) rfl rfl) (k := ?_) | refine RGo.go (h := W.slice_lo rfl rfl (by exact At.f) rfl (by omega)) (k := ?_) | refine RGo.goS (h := W.copyS (n - i) rfl rfl (by exact At.f) (by omega) (by omega) (by omega) (by omega) (by omega) hfr hw) (k := ?_)) | refine RK ?_ | refine RGo.nil (by kernel_rfl) ?_))
      have hti : (l.take i).length = i := by rw [List.length_take]; omega
      obtain ⟨l1, hl1⟩ : ∃ l1, l.take (0 + (i + 1)) ++ (l.drop (0 + i)).take (n - i) ++ l.drop (0 + (i + 1) + (n - i)) = l1 := ⟨_, rfl⟩
      rw [hl1]
      have hti1 : (l.take (i + 1)).length = i + 1 := by rw [List.length_take]; omega
      have hl1e : l1 = l.take (i + 1) ++ l.drop i := by
        have e1 : l.drop (0 + (i + 1) + (n - i)) = [] := List.drop_of_length_le (by omega)
        have e2 : (l.drop (0 + i)).take (n - i) = l.drop i := by rw [Nat.zero_add]; exact List.take_of_length_le (by rw [List.length_drop]; omega)
        rw [← hl1, e1, e2, List.append_nil, Nat.zero_add]
      have hfr1 : FreeL l1 := fun x hx => by
        rw [hl1e] at hx
        rcases List.mem_append.1 hx with hx | hx
        · exact hfr x (List.mem_of_mem_take hx)
        · exact hfr x (List.mem_of_mem_drop hx)
      have hl1n : l1.length = n + 1 := by rw [hl1e, List.length_append, hti1, List.length_drop]; omega
      have htk : l1.take i = l.take i := by rw [hl1e, List.take_append_of_le_length (by omega), List.take_take, Nat.min_eq_left (by omega)]
      have hdr : l1.drop (i + 1) = l.drop i := by rw [hl1e, List.drop_left' hti1]
      (repeat refine WF ?_); refine AWP.region ?_; (repeat (first | (refine AOps.gN ?_; first | refine AOps.p (W.slice_lo rfl rfl (by exact At.f) rfl (by omega)) rfl ?_ | refine AOps.s (W.copyO 1 rfl rfl (by exact At.f) (by exact At.f) (by rfl) (by omega) (by omega) (by omega) (by omega) (by exact Nat.le_refl _) hfr1 hfV hwV) rfl ?_) | refine WO ?_ | refine All.i fun X => ?_ | refine AllY.i fun Y => ?_))
      obtain ⟨l2, hl2⟩ : ∃ l2, l1.take (0 + i) ++ ([e].drop 0).take 1 ++ l1.drop (0 + i + 1) = l2 := ⟨_, rfl⟩
      rw [hl2]
      have hr : l2 = l.take i ++ e :: l.drop i := by
        rw [← hl2, Nat.zero_add, htk, hdr, List.append_assoc]; rfl
      have hm : n + 1 = l2.length := by
        rw [hr]; simp only [List.length_append, List.length_cons, List.length_drop, hti]; omega
      (repeat first | refine AOps.nil ?_ | refine WF ?_)
      (repeat (first | refine WK ?_ | refine All.i fun X => ?_ | refine AllY.i fun Y => ?_))
      (refine AWP.ret ?_; (repeat (first | refine inB_r ?_ | refine andThen_r ?_)); refine retQ_r ?_)
      rw [← hr]
      exact ⟨[.sl X 0 (n + 1)], [.lst true 34 2 l2], _, [], .cons (.tmp rfl) rfl .nil, .cons (.cell (.sl (p := 1) (.next .here) hm)) .nil, by exact Sub.f, rfl, rfl⟩
end Go.Proofs.Ytcnfcilfacgnnaa

namespace Go.Proofs.Ytcnfcilfacgnnaa
set_option linter.unusedVariables false
theorem at_ps (l : List Comp) (k : Int) (hs : SortC l) (hl : l.length ≤ 4611686018427387904) : PS Try.prog 44 [compsA false false l, iA k] (.tup [iA (compAt l k), bA (compOf l k).isSome]) :=
  (at_sp l k hl).mono fun r S' ⟨b, hb, e1, e2⟩ => ⟨by rw [e1, found_at hs hb], e2⟩
/-- A world with items that are its own. -/
def wdH (w : Wd) : AV := .agg [kindsA false false w.kinds, intsA false w.gens, itemsA true false w.items]
instance {w : Wd} : Frz (wdH w) (wdA false w) := ⟨by unfold wdH wdA; exact Frz.h⟩
theorem put_ps (w : Wd) (e : Ent) (c : Comp) (hw : WdL w) (h12 : w.kinds.length ≤ 12) : PS Try.prog 12 [wdA false w, entA e, compA false c] (.tup [wdH (putOf w e c).1, iA (putOf w e c).2]) := by
  have hfd := found_ps w e hw
  have hft := wfit_ps w.kinds [c] h12 (by simp)
  obtain ⟨r, hr⟩ : ∃ r, putOf w e c = r := ⟨_, rfl⟩
  rw [hr]
  unfold putOf at hr
  obtain ⟨v, hv⟩ : ∃ v, foundOf w e = v := ⟨_, rfl⟩
  rw [hv] at hfd
  unfold foundOf at hv
  obtain ⟨we, hwe⟩ : ∃ we, wdErr w = we := ⟨_, rfl⟩
  rw [hwe] at hv hr
  refine Spec.of (nt := 75) (res := [.cell 6 26, .tmp 7]) Try.func12 rfl (by kernel_rfl) rfl rfl rfl fun Sf => ?_
  (repeat refine WF ?_)
  refine AWP.region ?_
  refine AOps.goF fun P => ?_
  refine AOps.goB ?_
  refine AOps.goB ?_
  refine AOps.goF fun R => ?_
  (repeat (first | refine WO ?_ | refine All.i fun X => ?_ | refine AllY.i fun Y => ?_))
  (repeat first | refine AOps.nil ?_ | refine WF ?_)
  refine AWP.rs fun I => ?_
  (repeat refine WF ?_); refine AWP.region ?_; (repeat (first | (refine AOps.gN ?_; first | (refine AOps.g_callf ?_; first | refine AOps.z2 (h := hfd) (hT := .tup (.cons (.agg (.cons .fz (.cons .fz (.cons (.lst (Y := I) rfl) .nil)))) rfl rfl (.cons .pr rfl rfl (.cons .pr rfl rfl .nil)))) (k := ?_))) | refine WO ?_ | refine All.i fun X => ?_ | refine AllY.i fun Y => ?_))
  (repeat first | refine AOps.nil ?_ | refine WF ?_)
  (repeat (first | refine WK ?_ | refine All.i fun X => ?_ | refine AllY.i fun Y => ?_))
  by_cases hd : we ≠ 0
  · rw [if_pos hd] at hv hr
    subst hv
    subst hr
    refine AWP.cond_t rfl (decide_eq_true hd) ?_
    (repeat (first | refine WK ?_ | refine All.i fun X => ?_ | refine AllY.i fun Y => ?_))
    (refine AWP.ret ?_; (repeat (first | refine inB_r ?_ | refine andThen_r ?_)); refine retQ_r ?_)
    exact Ends.cv [.agg [.prim (.slice none 0 0), .prim (.slice none 0 0), .prim (.slice none 0 0)], iA we] [wdH wdE, iA we] (.cons (.agg (.cons .nil (.cons .nil (.cons .nil .nil)))) (.cons (.cell .same) .nil))
  rw [if_neg hd] at hv hr
  by_cases hg : findE w.items e < 0
  · rw [if_pos hg] at hv hr
    subst hv
    subst hr
    refine AWP.cond_t rfl rfl ?_
    (repeat (first | refine WK ?_ | refine All.i fun X => ?_ | refine AllY.i fun Y => ?_))
    (refine AWP.ret ?_; (repeat (first | refine inB_r ?_ | refine andThen_r ?_)); refine retQ_r ?_)
    exact Ends.cv [.agg [.prim (.slice none 0 0), .prim (.slice none 0 0), .prim (.slice none 0 0)], iA 4] [wdH wdE, iA 4] (.cons (.agg (.cons .nil (.cons .nil (.cons .nil .nil)))) (.cons (.cell .same) .nil))
  rw [if_neg hg] at hv hr
  obtain ⟨n, hn⟩ : ∃ n : Nat, findE w.items e = n := ⟨(findE w.items e).toNat, by omega⟩
  rw [hn, Int.toNat_natCast] at hr
  rw [hn] at hv
  subst hv
  obtain ⟨it, hit, _, hen⟩ := findE_some hn
  have hok := (wdErr_iff w).1 (hwe.trans (by simpa using hd))
  refine AWP.cond_f rfl rfl ?_
  by_cases hf : (wFit w.kinds [c]).2 ≠ 0
  · rw [if_pos hf] at hr
    subst hr
    (repeat (first | (refine AOps.gN ?_; first | (refine AOps.g_callf ?_; first | refine AOps.c2 (h := (hft ..)) (k := ?_)) | (refine AOps.g_lit ?_; refine AOps.goL (compA false c) ?_)) | refine WK ?_ | refine All.i fun X => ?_ | refine AllY.i fun Y => ?_))
    refine AWP.cond_t rfl (decide_eq_true hf) ?_
    (repeat (first | refine WK ?_ | refine All.i fun X => ?_ | refine AllY.i fun Y => ?_))
    (refine AWP.ret ?_; (repeat (first | refine inB_r ?_ | refine andThen_r ?_)); refine retQ_r ?_)
    exact Ends.cv [.agg [.prim (.slice none 0 0), .prim (.slice none 0 0), .prim (.slice none 0 0)], iA _] [wdH wdE, iA _] (.cons (.agg (.cons .nil (.cons .nil (.cons .nil .nil)))) (.cons (.cell .same) .nil))
  rw [if_neg hf] at hr
  obtain ⟨d, hd1, hd2, hd3, hd4⟩ := wFit_sing (by simpa using hf)
  rw [hd1, hit] at hr
  dsimp only at hr
  rw [hd1] at hft
  (repeat (first | (refine AOps.gN ?_; first | (refine AOps.g_callf ?_; first | refine AOps.c2 (h := (hft ..)) (k := ?_)) | (refine AOps.g_lit ?_; refine AOps.goL (compA false c) ?_)) | refine WK ?_ | refine All.i fun X => ?_ | refine AllY.i fun Y => ?_))
  refine AWP.cond_f rfl (decide_eq_false hf) ?_
  have him : (w.items.map itemB).length = w.items.length := List.length_map _
  have hnl : n < w.items.length := (List.getElem?_eq_some_iff.1 hit).1
  have hil := hw.items.1
  have hcl := hw.items.2 _ (List.mem_of_getElem? hit)
  have hsort := (held_iff.1 (hok.it it (List.mem_of_getElem? hit)).2.2.2.2).1
  obtain ⟨⟨en, eg⟩, cs⟩ := it
  dsimp only at hcl hsort hr
  have hat : (w.items.map itemB)[n]? = some (itemB ⟨⟨en, eg⟩, cs⟩) := by rw [List.getElem?_map, hit]; rfl
  have hnm : n < (w.items.map itemB).length := by omega
  (repeat (first | refine WK ?_ | refine All.i fun X => ?_ | refine AllY.i fun Y => ?_))
  refine AWP.thawIn (Y := I) (by exact At.f) (fun _ => Hos.at hat (.agg (.tail (.tail (.head .here))))) fun C => ?_
  have hat1 : ((w.items.map itemB).set n (.agg [iA en, iA eg, .sl C 0 (cs.map (compA false)).length]))[n]? = some (.agg [iA en, iA eg, .sl C 0 (cs.map (compA false)).length]) := List.getElem?_set_self hnm
  have hap : Spec Try.prog 44 [.sl C 0 (cs.map (compA false)).length, iA c.kind] [(C, .row 34 2 (cs.map (compA false)))] fun r' S' => r' = .tup [iA (compAt cs c.kind), bA (compOf cs c.kind).isSome] ∧ S' = [(C, .row 34 2 (cs.map (compA false)))] :=
    PS.lend (at_ps cs c.kind hsort (by have := hcl.1; omega)) rfl (.cons (Ld.row .here rfl) (.cons .frz .nil))
  (repeat refine WF ?_); refine AWP.region_run (by kernel_rfl) (by kernel_rfl) ?_; (repeat (first | (refine RGo.gN ?_; first | refine RGo.z2 (h := hap) (hT := .fz) (k := ?_)) | (refine RGo.gQ ?_; first | refine RGo.z2 (h := hap) (hT := .fz) (k := ?_)) | refine RK ?_ | refine RGo.nil (by kernel_rfl) ?_))
  (repeat refine WF ?_)
  (repeat refine WF ?_); refine AWP.region ?_; (repeat (first | refine WO ?_ | refine All.i fun X => ?_ | refine AllY.i fun Y => ?_)); refine AOps.nil ?_; (repeat refine WN ?_)
  have hins := insC_at (d := d) hsort
  rw [hd2] at hins
  have hle := compAt_le cs c.kind
  have hlt := fun h => compAt_lt (k := c.kind) hsort h
  obtain ⟨i, hi⟩ : ∃ i, compAt cs c.kind = i := ⟨_, rfl⟩
  rw [hi] at hins hle hlt ⊢
  have hcm : (cs.map (compA false)).length = cs.length := List.length_map _
  refine AWP.joinS (fun b : Nat × Nat × List AV => b.2.1 = b.2.2.length ∧ b.2.2 = (insC cs d).map (compA false)) (fun b => ⟨[(3, .ptr P 0 0), (6, .ptr R 0 0)], (b.1, .row 34 2 b.2.2) :: (I, .row 48 3 ((w.items.map itemB).set n (.agg [iA en, iA eg, .sl b.1 0 b.2.1]))) :: (R, .row 26 3 [.agg [.prim (.slice none 0 0), .prim (.slice none 0 0), .prim (.slice none 0 0)]]) :: (P, .row 26 3 [.agg [kindsA false false w.kinds, intsA false w.gens, .sl I 0 (w.items.map itemB).length]]) :: Sf⟩) ?_ ?_
  · by_cases hb : (compOf cs c.kind).isSome = true
    · rw [if_pos hb] at hins
      refine AWP.cond_t rfl hb ?_
      have hil := hlt hb
      have hat2 : (cs.map (compA false))[i]? = some (compA false cs[i]) := by rw [List.getElem?_map, List.getElem?_eq_getElem hil]; rfl
      (repeat refine WF ?_); refine AWP.region_run (by kernel_rfl) (by kernel_rfl) ?_; (repeat (first | refine RK ?_ | refine RGo.nil (by kernel_rfl) ?_))
      exact jn (C, (cs.map (compA false)).length, (cs.map (compA false)).set i (compA false d)) ⟨by simp, by rw [hins, List.map_set]⟩
    · rw [if_neg hb] at hins
      refine AWP.cond_f rfl (by simpa using hb) ?_
      refine AWP.rs fun Y => AWP.rs fun K2 => ?_
      have hcl1 := hcl.1
      have hin2 := (insertP_sp C K2 (cs.map (compA false)).length i (cs.map (compA false)) (compA false d) rfl (by omega) (by omega) (comps_free cs) (comp_free d) (comps_wid cs) rfl (by show [(compA false d).frz] = _; rw [(inferInstance : Frz (compA false d) (compA false d)).h])).used2
      (repeat refine WF ?_); refine AWP.region_run (by kernel_rfl) (by kernel_rfl) ?_; (repeat (first | (refine RGo.gN ?_; first | refine RGo.s (W.lit1 (X := K2) (l := [compA false d]) (by exact rfl) (by exact At.f) (by exact rfl) (by exact .inl rfl) (by decide) (by decide) (by exact rfl)) rfl ?_ | refine RGo.z3 (h := hin2) (hT := .ls (Y := Y)) (k := ?_)) | (refine RGo.gQ ?_; first | refine RGo.s (W.lit1 (X := K2) (l := [compA false d]) (by exact rfl) (by exact At.f) (by exact rfl) (by exact .inl rfl) (by decide) (by decide) (by exact rfl)) rfl ?_ | refine RGo.z3 (h := hin2) (hT := .ls (Y := Y)) (k := ?_)) | refine RK ?_ | refine RGo.nil (by kernel_rfl) ?_))
      rw [List.set_set]
      exact jn (Y, _, (cs.map (compA false)).take i ++ compA false d :: (cs.map (compA false)).drop i) ⟨rfl, by rw [hins, List.map_append, List.map_cons, List.map_take, List.map_drop]⟩
  · rintro ⟨Y, m, L⟩ ⟨hm, hL⟩
    dsimp only at hm hL ⊢
    have hatY : ((w.items.map itemB).set n (.agg [iA en, iA eg, .sl Y 0 m]))[n]? = some (.agg [iA en, iA eg, .sl Y 0 m]) := List.getElem?_set_self hnm
    refine AWP.closeIn (X := Y) (Y := I) (by exact At.f) (by exact At.f) rfl hm (Hos.at hatY (.agg (.tail (.tail (.head .here))))) ?_
    have hfin : (((w.items.map itemB).set n (.agg [iA en, iA eg, .sl Y 0 m])).set n (.agg [iA en, iA eg, .lst true 34 2 L])) = (w.items.set n ⟨⟨en, eg⟩, insC cs d⟩).map itemB := by rw [List.set_set, hL, List.map_set]; rfl
    rw [hfin]
    refine AWP.frzRow I ((w.items.set n ⟨⟨en, eg⟩, insC cs d⟩).map (itemA false)) (items_frzB _) ?_
    (repeat (first | refine WK ?_ | refine All.i fun X => ?_ | refine AllY.i fun Y => ?_))
    (refine AWP.ret ?_; (repeat (first | refine inB_r ?_ | refine andThen_r ?_)); refine retQ_r ?_)
    have hlI : (w.items.map itemB).length = ((w.items.set n ⟨⟨en, eg⟩, insC cs d⟩).map (itemA false)).length := by simp
    rw [setItem_at hit] at hr
    subst hr
    exact Ends.cv [.agg [kindsA false false w.kinds, intsA false w.gens, .sl I 0 (w.items.map itemB).length], iA 0] [wdH ⟨w.kinds, w.gens, w.items.set n ⟨⟨en, eg⟩, insC cs d⟩⟩, iA 0] (.cons (.agg (.cons .same (.cons .same (.cons (.sl (p := 1) (.next .here) hlI) .nil)))) (.cons (.cell .same) .nil))
end Go.Proofs.Ytcnfcilfacgnnaa

namespace Go.Proofs.Ytcnfcilfacgnnaa
set_option linter.unusedVariables false
theorem equalFuncK_ps (a b : List Kind) (f : FuncId) (cap : List AV) (p : Kind → Kind → Bool) (hs : st1s cap = true) (hl : a.length ≤ 4611686018427387904) (hf : ∀ x ∈ a, ∀ y ∈ b, PS Try.prog f ((kindA false) x :: (kindA false) y :: cap) (bA (p x y))) :
    PS Try.prog 88 [.lst false 43 2 (a.map (kindA false)), .lst false 43 2 (b.map (kindA false)), .fn f cap] (bA (eqF p a b)) := by
  refine Spec.of (nt := 32) (res := [.tmp 6]) Try.func88 rfl (by kernel_rfl) rfl rfl rfl fun Sf => ?_
  (repeat (first | refine WK ?_ | refine All.i fun X => ?_ | refine AllY.i fun Y => ?_))
  refine AWP.cond rfl (fun hb => ?_) (fun hb => ?_)
  · have hb : a.length ≠ b.length := by simp at hb; omega
    (repeat (first | refine WK ?_ | refine All.i fun X => ?_ | refine AllY.i fun Y => ?_))
    (refine AWP.ret ?_; (repeat (first | refine inB_r ?_ | refine andThen_r ?_)); refine retQ_r ?_); refine Ends.ps ?_
    rw [eqF_len hb]
  · have hb : a.length = b.length := by simp at hb; omega
    (repeat (first | refine WK ?_ | refine All.i fun X => ?_ | refine AllY.i fun Y => ?_))
    refine AWP.lp (fun i : Nat => ⟨[(0, .lst false 43 2 (a.map (kindA false))), (1, .lst false 43 2 (b.map (kindA false))), (2, .fn f cap), (15, .lst false 43 2 (a.map (kindA false))), (16, iA (a.map (kindA false)).length), (17, iA i)], Sf⟩) (fun i => i ≤ a.length ∧ ∀ j (h : j < a.length), j < i → p a[j] (b[j]'(by omega)) = true) (fun i => a.length - i) 0 ⟨Nat.zero_le _, fun j h hj => absurd hj (by omega)⟩ ?_
    rintro i ⟨hi, he⟩
    (repeat (first | refine WK ?_ | refine All.i fun X => ?_ | refine AllY.i fun Y => ?_))
    refine AWP.cond rfl (fun hc => ?_) (fun hc => ?_)
    · have h : i < a.length := by simpa using hc
      have h' : i < b.length := by omega
      (repeat (first | (refine AOps.gN ?_; first | (refine AOps.g_callv ?_; first | refine AOps.k2 (h := (hf _ (List.getElem_mem h) _ (List.getElem_mem h'))) (k := ?_))) | refine WK ?_ | refine All.i fun X => ?_ | refine AllY.i fun Y => ?_))
      refine AWP.cond rfl (fun hd => ?_) (fun hd => ?_)
      · have hd : p a[i] b[i] = false := by simpa using hd
        (repeat (first | refine WK ?_ | refine All.i fun X => ?_ | refine AllY.i fun Y => ?_))
        (refine AWP.ret ?_; (repeat (first | refine inB_r ?_ | refine andThen_r ?_)); refine retQ_r ?_); refine Ends.ps ?_
        rw [eqF_no hb h hd]
      · have hd : p a[i] b[i] = true := by simpa using hd
        (repeat (first | refine WK ?_ | refine All.i fun X => ?_ | refine AllY.i fun Y => ?_))
        refine lp_next (i + 1) ⟨h, fun j h1 h2 => ?_⟩
        by_cases e : j = i
        · subst e; exact hd
        · exact he j h1 (by omega)
    · have h : ¬ i < a.length := by simpa using hc
      (repeat (first | refine WK ?_ | refine All.i fun X => ?_ | refine AllY.i fun Y => ?_))
      (refine AWP.ret ?_; (repeat (first | refine inB_r ?_ | refine andThen_r ?_)); refine retQ_r ?_); refine Ends.ps ?_
      rw [eqF_yes hb fun j hj => he j hj (by omega)]
end Go.Proofs.Ytcnfcilfacgnnaa

namespace Go.Proofs.Ytcnfcilfacgnnaa
set_option linter.unusedVariables false
theorem sameCompsT1_ps (x y : Comp) (hl : x.vals.length ≤ 1099511627776) : PS Try.prog 62 [compA false x, compA false y] (bA (decide (x = y))) := by
  have heq := equalI_ps x.vals y.vals hl
  rw [← compEq]
  refine Spec.of (nt := 17) (res := [.tmp 4]) Try.func62 rfl (by kernel_rfl) rfl rfl rfl fun Sf => ?_
  (repeat refine WF ?_); refine AWP.region ?_; (repeat (first | (refine AOps.gN ?_; first | (refine AOps.g_box ?_; refine AOps.goB ?_)) | refine WO ?_ | refine All.i fun X => ?_ | refine AllY.i fun Y => ?_)); refine AOps.nil ?_; (repeat refine WN ?_)
  rcases Bool.eq_false_or_eq_true (decide (x.kind = y.kind)) with g | g
  · rw [g]
    (repeat (first | (refine AOps.gN ?_; first | (refine AOps.g_callf ?_; first | refine AOps.c2 (h := (heq ..)) (k := ?_))) | refine WK ?_ | refine All.i fun X => ?_ | refine AllY.i fun Y => ?_))
    (refine AWP.ret ?_; (repeat (first | refine inB_r ?_ | refine andThen_r ?_)); refine retQ_r ?_); refine Ends.ps ?_
    rfl
  · rw [g]
    (repeat (first | refine WK ?_ | refine All.i fun X => ?_ | refine AllY.i fun Y => ?_))
    (refine AWP.ret ?_; (repeat (first | refine inB_r ?_ | refine andThen_r ?_)); refine retQ_r ?_); refine Ends.ps ?_
    rfl
theorem sameCompsT_ps (a b : List Comp) (hl : CsL a) : PS Try.prog 26 [compsA false false a, compsA false false b] (bA (decide (a = b))) := by
  have h := equalFuncC_ps a b 62 [] (fun x y => decide (x = y)) rfl (by have := hl.1; omega) (fun x hx y _ => sameCompsT1_ps x y (hl.2 x hx))
  rw [eqF_eq fun _ _ _ _ => rfl] at h
  refine Spec.of (nt := 8) (res := [.tmp 4]) Try.func26 rfl (by kernel_rfl) rfl rfl rfl fun Sf => ?_
  (repeat (first | (refine AOps.gN ?_; first | (refine AOps.g_callf ?_; first | refine AOps.c3 (h := (h ..)) (k := ?_))) | refine WK ?_ | refine All.i fun X => ?_ | refine AllY.i fun Y => ?_))
  (refine AWP.ret ?_; (repeat (first | refine inB_r ?_ | refine andThen_r ?_)); refine retQ_r ?_); refine Ends.ps ?_
  rfl
theorem sameItemsT1_ps (x y : Item) (hl : CsL x.comps) : PS Try.prog 64 [itemA false x, itemA false y] (bA (decide (x = y))) := by
  have heq := sameCompsT_ps x.comps y.comps hl
  rw [← itemEq]
  refine Spec.of (nt := 17) (res := [.tmp 4]) Try.func64 rfl (by kernel_rfl) rfl rfl rfl fun Sf => ?_
  (repeat refine WF ?_); refine AWP.region ?_; (repeat (first | (refine AOps.gN ?_; first | (refine AOps.g_box ?_; refine AOps.goB ?_)) | refine WO ?_ | refine All.i fun X => ?_ | refine AllY.i fun Y => ?_)); refine AOps.nil ?_; (repeat refine WN ?_)
  have hE := entEql x.ent.n x.ent.gen y.ent.n y.ent.gen
  rw [show (decide (x.ent.n = y.ent.n) && decide (x.ent.gen = y.ent.gen)) = sameE x.ent y.ent from rfl] at hE
  cases hb : sameE x.ent y.ent
  · rw [hb] at hE
    (repeat (first | (refine AOps.gN ?_; first | refine AOps.p (W.eqP _ _ (by kernel_rfl) hE rfl rfl) rfl ?_) | refine WK ?_ | refine All.i fun X => ?_ | refine AllY.i fun Y => ?_))
    (refine AWP.ret ?_; (repeat (first | refine inB_r ?_ | refine andThen_r ?_)); refine retQ_r ?_); refine Ends.ps ?_
    rfl
  · rw [hb] at hE
    (repeat (first | (refine AOps.gN ?_; first | (refine AOps.g_callf ?_; first | refine AOps.c2 (h := (heq ..)) (k := ?_)) | refine AOps.p (W.eqP _ _ (by kernel_rfl) hE rfl rfl) rfl ?_) | refine WK ?_ | refine All.i fun X => ?_ | refine AllY.i fun Y => ?_))
    (refine AWP.ret ?_; (repeat (first | refine inB_r ?_ | refine andThen_r ?_)); refine retQ_r ?_); refine Ends.ps ?_
    rfl
theorem sameItemsT_ps (a b : List Item) (hl : ItL a) : PS Try.prog 27 [itemsA false false a, itemsA false false b] (bA (decide (a = b))) := by
  have h := equalFuncT_ps a b 64 [] (fun x y => decide (x = y)) rfl (by have := hl.1; omega) (fun x hx y _ => sameItemsT1_ps x y (hl.2 x hx))
  rw [eqF_eq fun _ _ _ _ => rfl] at h
  refine Spec.of (nt := 8) (res := [.tmp 4]) Try.func27 rfl (by kernel_rfl) rfl rfl rfl fun Sf => ?_
  (repeat (first | (refine AOps.gN ?_; first | (refine AOps.g_callf ?_; first | refine AOps.c3 (h := (h ..)) (k := ?_))) | refine WK ?_ | refine All.i fun X => ?_ | refine AllY.i fun Y => ?_))
  (refine AWP.ret ?_; (repeat (first | refine inB_r ?_ | refine andThen_r ?_)); refine retQ_r ?_); refine Ends.ps ?_
  rfl
theorem equalF_ps (a b : List Field) (hl : a.length ≤ 1099511627776) : PS Try.prog 90 [fieldsA false a, fieldsA false b] (bA (decide (a = b))) := by
  refine Spec.of (nt := 26) (res := [.tmp 4]) Try.func90 rfl (by kernel_rfl) rfl rfl rfl fun Sf => ?_
  (repeat (first | refine WK ?_ | refine All.i fun X => ?_ | refine AllY.i fun Y => ?_))
  refine AWP.cond rfl (fun hb => ?_) (fun hb => ?_)
  · have hb : a.length ≠ b.length := by simp at hb; omega
    (repeat (first | refine WK ?_ | refine All.i fun X => ?_ | refine AllY.i fun Y => ?_))
    (refine AWP.ret ?_; (repeat (first | refine inB_r ?_ | refine andThen_r ?_)); refine retQ_r ?_); refine Ends.ps ?_
    rw [decide_eq_false fun e => hb (by rw [e])]
  · have hb : a.length = b.length := by simp at hb; omega
    (repeat (first | refine WK ?_ | refine All.i fun X => ?_ | refine AllY.i fun Y => ?_))
    refine AWP.lp (fun i : Nat => ⟨[(0, fieldsA false a), (1, fieldsA false b), (12, iA (a.map fieldA).length), (13, iA i)], Sf⟩) (fun i => i ≤ a.length ∧ ∀ j (h : j < a.length), j < i → a[j] = b[j]'(by omega)) (fun i => a.length - i) 0 ⟨Nat.zero_le _, fun j h hj => absurd hj (by omega)⟩ ?_
    rintro i ⟨hi, he⟩
    (repeat (first | refine WK ?_ | refine All.i fun X => ?_ | refine AllY.i fun Y => ?_))
    refine AWP.cond rfl (fun hc => ?_) (fun hc => ?_)
    · have h : i < a.length := by simpa using hc
      have h' : i < b.length := by omega
      obtain ⟨f, hf⟩ : ∃ f, a[i] = f := ⟨_, rfl⟩
      obtain ⟨g, hg⟩ : ∃ g, b[i] = g := ⟨_, rfl⟩
      have haf : (a.map fieldA)[i]? = some (fieldA f) := by rw [List.getElem?_map, List.getElem?_eq_getElem h, hf]; rfl
      have hag : (b.map fieldA)[i]? = some (fieldA g) := by rw [List.getElem?_map, List.getElem?_eq_getElem h', hg]; rfl
      (repeat (first | refine WK ?_ | refine All.i fun X => ?_ | refine AllY.i fun Y => ?_))
      (repeat refine WF ?_); refine AWP.region_run (by kernel_rfl) (by kernel_rfl) ?_; (repeat (first | (refine RGo.gN ?_; first | refine RGo.p (W.neP _ _ (by kernel_rfl) (fieldNeq f g) rfl rfl) rfl ?_) | (refine RGo.gQ ?_; first | refine RGo.p (W.neP _ _ (by kernel_rfl) (fieldNeq f g) rfl rfl) rfl ?_) | refine RK ?_ | refine RGo.nil (by kernel_rfl) ?_))
      (repeat (first | refine WK ?_ | refine All.i fun X => ?_ | refine AllY.i fun Y => ?_))
      refine AWP.cond rfl (fun hd => ?_) (fun hd => ?_)
      · have hd : f ≠ g := by simpa using hd
        (repeat (first | refine WK ?_ | refine All.i fun X => ?_ | refine AllY.i fun Y => ?_))
        (refine AWP.ret ?_; (repeat (first | refine inB_r ?_ | refine andThen_r ?_)); refine retQ_r ?_); refine Ends.ps ?_
        rw [decide_eq_false fun e => hd (by subst e; rw [← hf, ← hg])]
      · have hd : f = g := by simpa using hd
        (repeat (first | refine WK ?_ | refine All.i fun X => ?_ | refine AllY.i fun Y => ?_))
        refine lp_next (i + 1) ⟨h, fun j h1 h2 => ?_⟩
        by_cases e : j = i
        · subst e; rw [hf, hg, hd]
        · exact he j h1 (by omega)
    · have h : ¬ i < a.length := by simpa using hc
      (repeat (first | refine WK ?_ | refine All.i fun X => ?_ | refine AllY.i fun Y => ?_))
      (refine AWP.ret ?_; (repeat (first | refine inB_r ?_ | refine andThen_r ?_)); refine retQ_r ?_); refine Ends.ps ?_
      rw [decide_eq_true (List.ext_getElem hb fun j h1 h2 => he j h1 (by omega))]
theorem kindEq (x y : Kind) : (decide (x.name = y.name) && decide (x.fields = y.fields)) = decide (x = y) := by
  obtain ⟨k, v⟩ := x
  obtain ⟨k', v'⟩ := y
  rw [Bool.eq_iff_iff]
  simp
theorem sameKindsT1_ps (x y : Kind) (hl : x.fields.length ≤ 1099511627776) : PS Try.prog 89 [kindA false x, kindA false y] (bA (decide (x = y))) := by
  have heq := equalF_ps x.fields y.fields hl
  rw [← kindEq]
  refine Spec.of (nt := 17) (res := [.tmp 4]) Try.func89 rfl (by kernel_rfl) rfl rfl rfl fun Sf => ?_
  (repeat refine WF ?_); refine AWP.region ?_; (repeat (first | (refine AOps.gN ?_; first | (refine AOps.g_box ?_; refine AOps.goB ?_)) | refine WO ?_ | refine All.i fun X => ?_ | refine AllY.i fun Y => ?_)); refine AOps.nil ?_; (repeat refine WN ?_)
  rcases Bool.eq_false_or_eq_true (decide (x.name = y.name)) with g | g
  · rw [g]
    (repeat (first | (refine AOps.gN ?_; first | (refine AOps.g_callf ?_; first | refine AOps.c2 (h := (heq ..)) (k := ?_))) | refine WK ?_ | refine All.i fun X => ?_ | refine AllY.i fun Y => ?_))
    (refine AWP.ret ?_; (repeat (first | refine inB_r ?_ | refine andThen_r ?_)); refine retQ_r ?_); refine Ends.ps ?_
    rfl
  · rw [g]
    (repeat (first | refine WK ?_ | refine All.i fun X => ?_ | refine AllY.i fun Y => ?_))
    (refine AWP.ret ?_; (repeat (first | refine inB_r ?_ | refine andThen_r ?_)); refine retQ_r ?_); refine Ends.ps ?_
    rfl
theorem sameKindsT_ps (a b : List Kind) (hl : KsL a) : PS Try.prog 48 [kindsA false false a, kindsA false false b] (bA (decide (a = b))) := by
  have h := equalFuncK_ps a b 89 [] (fun x y => decide (x = y)) rfl (by have := hl.1; omega) (fun x hx y _ => sameKindsT1_ps x y (hl.2 x hx))
  rw [eqF_eq fun _ _ _ _ => rfl] at h
  refine Spec.of (nt := 8) (res := [.tmp 4]) Try.func48 rfl (by kernel_rfl) rfl rfl rfl fun Sf => ?_
  (repeat (first | (refine AOps.gN ?_; first | (refine AOps.g_callf ?_; first | refine AOps.c3 (h := (h ..)) (k := ?_))) | refine WK ?_ | refine All.i fun X => ?_ | refine AllY.i fun Y => ?_))
  (refine AWP.ret ?_; (repeat (first | refine inB_r ?_ | refine andThen_r ?_)); refine retQ_r ?_); refine Ends.ps ?_
  rfl
set_option maxRecDepth 4000 in
theorem sameT_ps (a b : Wd) (hl : WdL a) : PS Try.prog 16 [wdA false a, wdA false b] (bA (decide (a = b))) := by
  have h1 := sameKindsT_ps a.kinds b.kinds hl.ks
  have h2 := equalI_ps a.gens b.gens hl.gens
  have h3 := sameItemsT_ps a.items b.items hl.items
  rw [← wdEq]
  refine Spec.of (nt := 24) (res := [.tmp 4]) Try.func16 rfl (by kernel_rfl) rfl rfl rfl fun Sf => ?_
  (repeat refine WF ?_); refine AWP.region ?_; (repeat (first | (refine AOps.gN ?_; first | (refine AOps.g_box ?_; refine AOps.goB ?_)) | refine WO ?_ | refine All.i fun X => ?_ | refine AllY.i fun Y => ?_)); refine AOps.nil ?_; (repeat refine WN ?_)
  obtain ⟨b1, e1⟩ : ∃ b1, decide (a.kinds = b.kinds) = b1 := ⟨_, rfl⟩
  obtain ⟨b2, e2⟩ : ∃ b2, decide (a.gens = b.gens) = b2 := ⟨_, rfl⟩
  rw [e1] at h1 ⊢
  rw [e2] at h2 ⊢
  cases b1
  · (repeat (first | (refine AOps.gN ?_; first | (refine AOps.g_callf ?_; first | refine AOps.c2 (h := (h1 ..)) (k := ?_))) | refine WK ?_ | refine All.i fun X => ?_ | refine AllY.i fun Y => ?_))
    (refine AWP.ret ?_; (repeat (first | refine inB_r ?_ | refine andThen_r ?_)); refine retQ_r ?_); refine Ends.ps ?_
    rfl
  · cases b2
    · (repeat (first | (refine AOps.gN ?_; first | (refine AOps.g_callf ?_; first | refine AOps.c2 (h := (h1 ..)) (k := ?_) | refine AOps.c2 (h := (h2 ..)) (k := ?_))) | refine WK ?_ | refine All.i fun X => ?_ | refine AllY.i fun Y => ?_))
      (refine AWP.ret ?_; (repeat (first | refine inB_r ?_ | refine andThen_r ?_)); refine retQ_r ?_); refine Ends.ps ?_
      rfl
    · (repeat (first | (refine AOps.gN ?_; first | (refine AOps.g_callf ?_; first | refine AOps.c2 (h := (h1 ..)) (k := ?_) | refine AOps.c2 (h := (h2 ..)) (k := ?_) | refine AOps.c2 (h := (h3 ..)) (k := ?_))) | refine WK ?_ | refine All.i fun X => ?_ | refine AllY.i fun Y => ?_))
      (refine AWP.ret ?_; (repeat (first | refine inB_r ?_ | refine andThen_r ?_)); refine retQ_r ?_); refine Ends.ps ?_
      rfl
end Go.Proofs.Ytcnfcilfacgnnaa

namespace Go.Proofs.Ytcnfcilfacgnnaa
set_option linter.unusedVariables false
def compVals (c : Nat) (n : Int) (l : List Int) : List Int := (List.range c).map fun j => l.getD j n
theorem compVals_len (c : Nat) (n : Int) (l : List Int) : (compVals c n l).length = c := by simp [compVals]
theorem compVals_succ (c : Nat) (n : Int) (l : List Int) : compVals (c + 1) n l = compVals c n l ++ [l.getD c n] := by simp [compVals, List.range_succ]
theorem comp_ps (ks : List Kind) (n : Int) (l : List Int) (i : Nat) (hil : i < ks.length) (hi : n % (ks.length : Int) = i) (h8 : (ks[i]).fields.length ≤ 8) (hlen : ks.length ≤ 1099511627776) :
    PS Try.prog 11 [kindsA false false ks, iA n, intsA false l] (compA false ⟨i, compVals (ks[i]).fields.length n l⟩) := by
  refine Spec.of (nt := 42) (res := [.cell 6 34]) Try.func11 rfl (by kernel_rfl) rfl rfl rfl fun Sf => ?_
  have hb0 : PS Try.prog 17 [iA n, iA (ks.map (kindA false)).length] (iA i) := by
    have := below_ps n (ks.length : Int) (by omega) (by omega)
    rw [hi] at this
    simpa using this
  (repeat (first | (refine AOps.gN ?_; first | (refine AOps.g_callf ?_; first | refine AOps.c2 (h := (hb0 ..)) (k := ?_))) | refine WK ?_ | refine All.i fun X => ?_ | refine AllY.i fun Y => ?_))
  rename_i R
  refine AWP.adoptIn 3 1 .here (fun F => .cons (.agg (.cons .same (.cons (.base .nil) .nil))) .nil) fun F => ?_
  refine AWP.lp3 (fun (j F : Nat) (L : List AV) => ⟨[(1, iA n), (2, intsA false l), (6, .ptr R 0 0), (7, .ptr X 0 0), (21, iA ((ks[i]).fields.map fieldA).length), (22, iA j)], (F, .row 3 1 L) :: (X, .row 34 2 [.agg [iA i, .sl F 0 j]]) :: (R, .row 34 2 [.agg [iA 0, .prim (.slice none 0 0)]]) :: Sf⟩) (fun j _ L => j ≤ (ks[i]).fields.length ∧ L = (compVals j n l).map iA) (fun j _ _ => (ks[i]).fields.length - j) 0 F [] ⟨Nat.zero_le _, rfl⟩ ?_
  rintro j F L ⟨hj, hL⟩
  have hLl : L.length = j := by rw [hL, List.length_map, compVals_len]
  (repeat (first | refine WK ?_ | refine All.i fun X => ?_ | refine AllY.i fun Y => ?_))
  refine AWP.cond rfl (fun hb => ?_) (fun hb => ?_)
  · have h : j < (ks[i]).fields.length := by rw [decide_eq_true_eq, List.length_map] at hb; omega
    (repeat (first | refine WK ?_ | refine All.i fun X => ?_ | refine AllY.i fun Y => ?_))
    refine AWP.cond rfl (fun hc => ?_) (fun hc => ?_)
    · have hc : j < l.length := by simpa using hc
      (repeat (first | refine WK ?_ | refine All.i fun X => ?_ | refine AllY.i fun Y => ?_))
      refine lp_next3 (j + 1) _ _ ⟨h, ?_⟩
      rw [compVals_succ, List.map_append, hL, show l.getD j n = l[j] from by simp [List.getD_eq_getElem?_getD, hc]]
      rfl
    · have hc : ¬ j < l.length := by simpa using hc
      (repeat (first | refine WK ?_ | refine All.i fun X => ?_ | refine AllY.i fun Y => ?_))
      refine lp_next3 (j + 1) _ _ ⟨h, ?_⟩
      rw [compVals_succ, List.map_append, hL, show l.getD j n = n from by simp [List.getD_eq_getElem?_getD, List.getElem?_eq_none (Nat.le_of_not_lt hc)]]
      rfl
  · have h : j = (ks[i]).fields.length := by rw [decide_eq_false_iff_not, List.length_map] at hb; omega
    subst h
    (repeat first | refine AOps.nil ?_ | refine WF ?_)
    refine AWP.iceIn (X := F) .here (.next .here) rfl (.cons (.agg (.cons .same (.cons (.base (.sl (by omega))) .nil))) .nil) ?_
    have hF : AV.frzs ((L.drop 0).take (ks[i]).fields.length) = (compVals (ks[i]).fields.length n l).map iA := by
      rw [List.drop_zero, List.take_of_length_le (by omega), hL]
      exact Frzs.h
    rw [hF]
    (repeat (first | refine WK ?_ | refine All.i fun X => ?_ | refine AllY.i fun Y => ?_))
    (refine AWP.ret ?_; (repeat (first | refine inB_r ?_ | refine andThen_r ?_)); refine retQ_r ?_)
    refine Ends.id (rs := [compA false ⟨i, compVals (ks[i]).fields.length n l⟩]) rfl (.cons (.cell (p := 2) rfl (.next (.next .here)) TAg.h TSize.h rfl rfl) rfl .nil)
end Go.Proofs.Ytcnfcilfacgnnaa

namespace Go.Proofs.Ytcnfcilfacgnnaa
set_option linter.unusedVariables false
open Go.RowKit
def baseM (w : World) : Mem := ⟨fun _ => none, fun _ => False, w, fun b => b < w.heap.size⟩
theorem baseM_good (w : World) : Good (baseM w) (baseM w) 0 [] [] :=
  ⟨fun z hz => (by cases hz), .nil, fun b hb => (by cases hb), fun b h => h, .nil, fun x hx => (by cases hx), fun x h => h.elim, .refl _, rfl, rfl, rfl, Nat.le_refl _⟩
theorem Good.bel {w : World} {m' : Mem} {N : Nat} {Z : Zs} {br : List Nat} (G : Good (baseM w) m' N Z br) : Below w.heap.size w m'.w :=
  ⟨G.os, G.tape, G.output, G.size, fun k hk => (G.le.F k hk).2⟩
theorem PS.calls_bool {P : Program} {f : FuncId} {args : List AV} {b : Bool} (h : PS P f args (bA b)) {w : World} {vals : Array Value} (hv : VTs (baseM w) args vals.toList []) :
    Calls P f vals w fun e w' => e = .returned (.bool b) ∧ Below w.heap.size w w' :=
  (h.run [] (baseM w) 0 [] vals rfl (baseM_good w) hv).mono fun e w' ⟨v, r, S', m', N', Z', br, h1, h2, h3, G, h4, h5, h6⟩ => by
    subst h1 h2 h5
    refine ⟨?_, G.bel⟩
    obtain ⟨⟨h7, _⟩, _⟩ := h4
    injection h7 with h7
    rw [h7]
theorem cells_vcs {α : Type} {m : Mem} {C : List Value → α → Prop} {sz : Nat} {f : α → AV} (hC : ∀ c x, C c x → VC m (f x) c []) : ∀ {l : List α} {xs : List Value}, Cells C sz xs l → VCs m (l.map f) xs []
  | [], _, h => ⟨h, rfl⟩
  | x :: l, _, ⟨c, ys, h1, h2, h3, h4⟩ => ⟨c, ys, [], [], h1, rfl, hC c x h3, cells_vcs hC h4⟩
theorem cell_block {w : World} {b o : Nat} {u : Value} (h : w.cell? ⟨b, o, none⟩ = some u) : ∃ arr t r, w.heap[b]? = some (.cells arr t r) ∧ arr[o]? = some u := by
  unfold World.cell? at h
  cases hb : w.heap[b]? with
  | none => simp only [hb] at h; cases h
  | some blk =>
    cases blk with
    | cells c t r => simp only [hb] at h; exact ⟨c, t, r, rfl, by simpa using h⟩
    | _ => simp only [hb] at h; cases h
theorem sl_vc {α : Type} {w : World} {C : World → Reg → List Value → α → Prop} {sz : Nat} {f : α → AV} {t : TypeId} {v : Value} {l : List α} (hsz : 0 < sz) (hC : ∀ c x, C w (Lt w) c x → VC (baseM w) (f x) c []) (hw : ∀ x, (f x).width = sz) (h : Sl w (Lt w) sz C v l) : VC (baseM w) (.lst false t sz (l.map f)) [v] [] := by
  obtain ⟨xs, ⟨h1, A, cap, rfl, hn, hr⟩, hc⟩ := h
  refine ⟨rfl, A, cap, by simp, by simpa using hn, fun e he => by obtain ⟨x, _, rfl⟩ := List.mem_map.1 he; exact hw x, fun h0 => ?_⟩
  have h0 : 0 < l.length := by simpa using h0
  obtain ⟨b, off, rfl, hb, hcell⟩ := hr h0
  have hx : 0 < xs.length := by rw [h1]; exact Nat.mul_pos h0 hsz
  obtain ⟨arr, t', r, h2, h3⟩ := cell_block (hcell 0 xs[0] (by simp))
  refine ⟨b, off, arr, t', r, rfl, hb, h2, ?_⟩
  have e : (arr.toList.drop off).take ((l.map f).length * sz) = xs := by
    apply List.ext_getElem?
    intro j
    rw [List.getElem?_take]
    split
    · rename_i hj
      have hj : j < xs.length := by rw [h1]; simpa using hj
      obtain ⟨arr2, t2, r2, h4, h5⟩ := cell_block (hcell j xs[j] (by simp))
      rw [h2] at h4
      injection h4 with h4
      injection h4 with h4
      subst h4
      rw [List.getElem?_drop, List.getElem?_eq_getElem hj]
      simpa using h5
    · rename_i hj
      rw [List.getElem?_eq_none]
      rw [h1]; simpa using hj
  rw [e]
  exact cells_vcs hC hc
theorem ints_vc {w : World} {v : Value} {l : List Int} (h : Ints w (Lt w) v l) : VC (baseM w) (intsA false l) [v] [] :=
  sl_vc (f := iA) (by decide) (fun c x hc => ⟨⟨hc, rfl⟩, rfl⟩) (fun _ => rfl) h
theorem vts_nil {m : Mem} : VTs m [] [] [] := ⟨rfl, rfl⟩
theorem vts_int {m : Mem} {l : List AV} {us : List Value} {x : Int} (k : VTs m l us []) : VTs m (iA x :: l) (.int .i64 x :: us) [] := (VTs_cons rfl).2 ⟨_, _, [], [], rfl, rfl, ⟨⟨rfl, rfl⟩, rfl⟩, k⟩
theorem vts_ints {w : World} {v : Value} {z : List Int} {l : List AV} {us : List Value} (h : Ints w (Lt w) v z) (k : VTs (baseM w) l us []) : VTs (baseM w) (intsA false z :: l) (v :: us) [] := (VTs_cons rfl).2 ⟨_, _, [], [], rfl, rfl, ints_vc h, k⟩
end Go.Proofs.Ytcnfcilfacgnnaa

namespace Go.Proofs.Ytcnfcilfacgnnaa
set_option linter.unusedVariables false
open Go.RowKit
theorem genWorld_ks (l : List Int) : 0 < (genWorld l).kinds.length ∧ (genWorld l).kinds.length ≤ 4 := ⟨genKinds_pos l, (genKinds_small l).1⟩
/-- The component of raw numbers fits. -/
theorem comp_fits {ks : List Kind} (hk : checkErr ks = 0) {i : Nat} (hi : i < ks.length) (n : Int) (l : List Int) : FitOK ks ⟨i, compVals (ks[i]).fields.length n l⟩ := by
  refine ⟨by dsimp only; omega, by dsimp only; omega, ks[i], by dsimp only; rw [Int.toNat_natCast, List.getElem?_eq_getElem hi], ?_⟩
  rw [fitOf_ok ((checkErr_one hk).2 _ (List.getElem_mem hi)) (by rw [compVals_len])]
set_option maxRecDepth 8000 in
set_option maxHeartbeats 4000000 in
theorem worldGets_ps (l : List Int) (n : Int) (m o : List Int) (hl : l.length * 8 ≤ 140737488351232) (hm : m.length * 8 ≤ 140737488351232) (ho : o.length * 8 ≤ 140737488351232) (hn : I64 n) : PS Try.prog 3 [intsA false l, iA n, intsA false m, intsA false o] (bA true) := by
  have hwp := world_ps l
  have hok := genWorld_ok l
  obtain ⟨hk0, hk4⟩ := genWorld_ks l
  obtain ⟨w, hw⟩ : ∃ w, genWorld l = w := ⟨_, rfl⟩
  rw [hw] at hwp hok hk0 hk4
  clear hw
  have hL := hok.wl
  have hIl : w.items.length ≤ 256 := by have := hok.il; have := hok.gl; omega
  refine Spec.of (nt := 167) (res := [.tmp 8]) Try.func3 rfl (by kernel_rfl) rfl rfl rfl fun Sf => ?_
  (repeat refine WF ?_); refine AWP.region ?_; (repeat (first | refine WO ?_ | refine All.i fun X => ?_ | refine AllY.i fun Y => ?_)); refine AOps.nil ?_; (repeat refine WN ?_)
  (repeat refine WF ?_); refine AWP.region ?_; (repeat (first | (refine AOps.gN ?_; first | (refine AOps.g_callf ?_; first | refine AOps.c1 (h := (hwp ..)) (k := ?_))) | refine WO ?_ | refine All.i fun V => ?_ | refine AllY.i fun Y => ?_)); refine AOps.nil ?_; (repeat refine WN ?_)
  (repeat (first | (refine AOps.gN ?_; first | (refine AOps.g_callf ?_; first | refine AOps.c0 (h := (begun_ps ..)) (k := ?_))) | refine WK ?_ | refine All.i fun X => ?_ | refine AllY.i fun Y => ?_))
  refine AWP.cond_f rfl rfl ?_
  by_cases he : w.items = []
  · have hpk := pick_no w n he
    (repeat (first | (refine AOps.gN ?_; first | (refine AOps.g_callf ?_; first | refine AOps.c2 (h := (hpk ..)) (k := ?_))) | refine WK ?_ | refine All.i fun X => ?_ | refine AllY.i fun Y => ?_))
    refine AWP.cond_t rfl rfl ?_
    (repeat (first | refine WK ?_ | refine All.i fun X => ?_ | refine AllY.i fun Y => ?_))
    (refine AWP.ret ?_; (repeat (first | refine inB_r ?_ | refine andThen_r ?_)); refine retQ_r ?_); refine Ends.ps ?_
    rfl
  have hlen : 0 < w.items.length := List.length_pos_iff.2 he
  obtain ⟨i, hi⟩ : ∃ i : Nat, n % (w.items.length : Int) = i := ⟨(n % (w.items.length : Int)).toNat, by have := Int.emod_nonneg n (b := (w.items.length : Int)) (by omega); omega⟩
  have hil : i < w.items.length := by have := Int.emod_lt_of_pos n (b := (w.items.length : Int)) (by omega); omega
  obtain ⟨it, hit⟩ : ∃ it, w.items[i]? = some it := ⟨w.items[i], List.getElem?_eq_getElem hil⟩
  have hpk := pick_yes w n i it hi hit (by have := hL.items.1; omega)
  obtain ⟨j, hj⟩ : ∃ j : Nat, n % (w.kinds.length : Int) = j := ⟨(n % (w.kinds.length : Int)).toNat, by have := Int.emod_nonneg n (b := (w.kinds.length : Int)) (by omega); omega⟩
  have hjl : j < w.kinds.length := by have := Int.emod_lt_of_pos n (b := (w.kinds.length : Int)) (by omega); omega
  have hko := (checkErr_one hok.ks).2 _ (List.getElem_mem hjl)
  have h8 := (oneErr_zero hko).2.1
  have hc1 := comp_ps w.kinds n m j hjl hj h8 (by omega)
  have hc2 := comp_ps w.kinds n o j hjl hj h8 (by omega)
  have hf1 := comp_fits hok.ks hjl n m
  have hf2 := comp_fits hok.ks hjl n o
  obtain ⟨c1, hcc1⟩ : ∃ c, compVals (w.kinds[j]).fields.length n m = c := ⟨_, rfl⟩
  obtain ⟨c2, hcc2⟩ : ∃ c, compVals (w.kinds[j]).fields.length n o = c := ⟨_, rfl⟩
  rw [hcc1] at hc1 hf1
  rw [hcc2] at hc2 hf2
  obtain ⟨v, p1, p2, p3, p4, p5, p6, p7, u, p8, p9, p10⟩ := gets_law hok hit hf1 hf2 rfl
  have q1 := put_ps w it.ent ⟨j, c1⟩ hL (by omega)
  rw [p1] at q1
  have q2 := put_ps v it.ent ⟨j, c2⟩ p2.wl (by rw [p3]; omega)
  rw [p8] at q2
  have q3 := put_ps w it.ent ⟨j, c2⟩ hL (by omega)
  rw [p9] at q3
  have q4 := get_ps v it.ent j p2.wl
  rw [show (⟨(j : Int), c1⟩ : Comp).kind = j from rfl] at p6
  rw [p6] at q4
  have q5 := fit_ps w.kinds[j] c1
  have hfc : fitC w.kinds ⟨j, c1⟩ = ⟨j, (fitOf w.kinds[j] c1).1⟩ := fitC_eq (by dsimp only; rw [Int.toNat_natCast, List.getElem?_eq_getElem hjl])
  rw [hfc] at q4
  obtain ⟨fv, hfv⟩ : ∃ fv, (fitOf w.kinds[j] c1).1 = fv := ⟨_, rfl⟩
  rw [hfv] at q4 q5
  have hatk : (w.kinds.map (kindA false))[j]? = some (kindA false w.kinds[j]) := by rw [List.getElem?_map, List.getElem?_eq_getElem hjl]; rfl
  have hfl : fv.length ≤ 8 := by
    have := (fitOf_holds (k := w.kinds[j]) (v := c1) (by obtain ⟨_, _, k, hk, hf⟩ := hf1; dsimp only at hk hf; rw [Int.toNat_natCast, List.getElem?_eq_getElem hjl] at hk; injection hk with hk; rw [hk]; exact hf)).2.1
    rw [← hfv, this, List.length_zipWith]
    omega
  have q6 := equalI_ps fv fv (by omega)
  rw [decide_eq_true rfl] at q6
  (repeat (first | (refine AOps.gN ?_; first | (refine AOps.g_callf ?_; first | refine AOps.c2 (h := (hpk ..)) (k := ?_))) | refine WK ?_ | refine All.i fun Y => ?_ | refine AllY.i fun Y => ?_))
  refine AWP.cond_f rfl rfl ?_
  refine AWP.rs fun C2 => AWP.rs fun C1 => ?_
  (repeat refine WF ?_); refine AWP.region_run (by kernel_rfl) (by kernel_rfl) ?_; (repeat (first | (refine RGo.gN ?_; first | refine RGo.c3 (h := hc1) (k := ?_) | refine RGo.c3 (h := hc2) (k := ?_)) | (refine RGo.gQ ?_; first | refine RGo.c3 (h := hc1) (k := ?_) | refine RGo.c3 (h := hc2) (k := ?_)) | refine RK ?_ | refine RGo.nil (by kernel_rfl) ?_))
  (repeat refine WF ?_); refine AWP.region ?_; (repeat (first | (refine AOps.gN ?_; first | (refine AOps.g_callf ?_; first | refine AOps.c3 (h := (q1 ..)) (k := ?_))) | refine WO ?_ | refine All.i fun U => ?_ | refine AllY.i fun Y => ?_)); refine AOps.nil ?_; (repeat refine WN ?_)
  (repeat refine WF ?_); refine AWP.region_run (by kernel_rfl) (by kernel_rfl) ?_; (repeat (first | (refine RGo.gN ?_; first | refine RGo.c2 (h := q5) (k := ?_)) | (refine RGo.gQ ?_; first | refine RGo.c2 (h := q5) (k := ?_)) | refine RK ?_ | refine RGo.nil (by kernel_rfl) ?_))
  (repeat refine WF ?_); refine AWP.region ?_; (repeat (first | (refine AOps.gN ?_; first | (refine AOps.g_callf ?_; first | refine AOps.c3 (h := (q4 ..)) (k := ?_))) | refine WO ?_ | refine All.i fun X => ?_ | refine AllY.i fun Y => ?_)); refine AOps.nil ?_; (repeat refine WN ?_)
  (repeat refine WF ?_); refine AWP.region ?_; (repeat (first | (refine AOps.gN ?_; first | (refine AOps.g_callf ?_; first | refine AOps.c2 (h := (q6 ..)) (k := ?_))) | refine WO ?_ | refine All.i fun X => ?_ | refine AllY.i fun Y => ?_)); refine AOps.nil ?_; (repeat refine WN ?_)
  refine AWP.cond_f rfl rfl ?_
  (repeat (first | refine WK ?_ | refine All.i fun X => ?_ | refine AllY.i fun Y => ?_))
  have him : (w.items.map (itemA false)).length = w.items.length := List.length_map _
  have hkm : (w.kinds.map (kindA false)).length = w.kinds.length := List.length_map _
  refine AWP.lp (fun a : Nat => ⟨[(9, .ptr V 0 0), (10, .ptr Y 0 0), (12, .ptr C1 0 0), (13, .ptr C2 0 0), (14, .ptr U 0 0), (93, itemsA false false w.items), (94, iA (w.items.map (itemA false)).length), (95, iA a)], (U, .row 26 3 [wdA false v]) :: (C1, .row 34 2 [compA false ⟨j, c1⟩]) :: (C2, .row 34 2 [compA false ⟨j, c2⟩]) :: (Y, .row 30 2 [entA it.ent]) :: (V, .row 26 3 [wdA false w]) :: Sf⟩) (fun a => a ≤ w.items.length) (fun a => w.items.length - a) 0 (Nat.zero_le _) ?_
  rintro a ha
  (repeat (first | refine WK ?_ | refine All.i fun X => ?_ | refine AllY.i fun Y => ?_))
  refine AWP.cond rfl (fun hc => ?_) (fun hc => ?_)
  · have h : a < w.items.length := by rw [decide_eq_true_eq, him] at hc; omega
    obtain ⟨⟨⟨en, eg⟩, cs⟩, hx⟩ : ∃ it, w.items[a] = it := ⟨_, rfl⟩
    have hat : (w.items.map (itemA false))[a]? = some (itemA false ⟨⟨en, eg⟩, cs⟩) := by rw [List.getElem?_map, List.getElem?_eq_getElem h, hx]; rfl
    (repeat (first | refine WK ?_ | refine All.i fun B => ?_ | refine AllY.i fun Y => ?_))
    refine AWP.lp (fun b : Nat => ⟨[(9, .ptr V 0 0), (10, .ptr Y 0 0), (12, .ptr C1 0 0), (13, .ptr C2 0 0), (14, .ptr U 0 0), (21, .ptr B 0 0), (93, itemsA false false w.items), (94, iA (w.items.map (itemA false)).length), (95, iA a), (101, iA (w.kinds.map (kindA false)).length), (102, iA b)], (B, .row 48 3 [itemA false ⟨⟨en, eg⟩, cs⟩]) :: (U, .row 26 3 [wdA false v]) :: (C1, .row 34 2 [compA false ⟨j, c1⟩]) :: (C2, .row 34 2 [compA false ⟨j, c2⟩]) :: (Y, .row 30 2 [entA it.ent]) :: (V, .row 26 3 [wdA false w]) :: Sf⟩) (fun b => b ≤ w.kinds.length) (fun b => w.kinds.length - b) 0 (Nat.zero_le _) ?_
    rintro b hb
    (repeat (first | refine WK ?_ | refine All.i fun X => ?_ | refine AllY.i fun Y => ?_))
    refine AWP.cond rfl (fun hd => ?_) (fun hd => ?_)
    · have hbl : b < w.kinds.length := by rw [decide_eq_true_eq, hkm] at hd; omega
      have hE := entEql en eg it.ent.n it.ent.gen
      rw [show (decide (en = it.ent.n) && decide (eg = it.ent.gen)) = sameE ⟨en, eg⟩ it.ent from rfl, sameE_dec] at hE
      (repeat refine WF ?_); refine AWP.region ?_; (repeat (first | refine WO ?_ | refine All.i fun X => ?_ | refine AllY.i fun Y => ?_)); refine AOps.nil ?_; (repeat refine WN ?_)
      (repeat refine WF ?_); refine AWP.region ?_; (repeat (first | (refine AOps.gN ?_; first | refine AOps.p (W.eqP _ _ (by kernel_rfl) hE rfl rfl) rfl ?_) | refine WO ?_ | refine All.i fun X => ?_ | refine AllY.i fun Y => ?_)); refine AOps.nil ?_; (repeat refine WN ?_)
      refine AWP.cond rfl (fun hs => ?_) (fun hs => ?_)
      · (repeat (first | refine WK ?_ | refine All.i fun X => ?_ | refine AllY.i fun Y => ?_))
        refine lp_next (b + 1) hbl
      have hs : ¬ ((⟨en, eg⟩ : Ent) = it.ent ∧ (b : Int) = j) := by simpa using hs
      have r1 := get_ps w ⟨en, eg⟩ b hL
      have r2 := get_ps v ⟨en, eg⟩ b p2.wl
      rw [← p7 _ _ hs] at r2
      have hgl : (getOf w ⟨en, eg⟩ b).1.length ≤ 1099511627776 := by
        rw [getOf_valid hok]
        split
        · simp
        · rename_i x hx
          split
          · simp
          · rename_i c hcc
            have hxm := ((itemOf_iff hok.so).1 hx).1
            exact (hL.items.2 x hxm).2 c ((compOf_iff (held_iff.1 (hok.it x hxm).2.2.2.2).1).1 hcc).1
      obtain ⟨gl, hgg⟩ : ∃ gl, (getOf w ⟨en, eg⟩ b).1 = gl := ⟨_, rfl⟩
      obtain ⟨ge, hge⟩ : ∃ ge, (getOf w ⟨en, eg⟩ b).2 = ge := ⟨_, rfl⟩
      rw [hgg, hge] at r1 r2
      rw [hgg] at hgl
      have r3 := equalI_ps gl gl hgl
      rw [decide_eq_true rfl] at r3
      have g : decide (ge ≠ ge) = false := by simp
      (repeat refine WF ?_); refine AWP.region ?_; (repeat (first | (refine AOps.gN ?_; first | (refine AOps.g_callf ?_; first | refine AOps.c3 (h := (r1 ..)) (k := ?_))) | refine WO ?_ | refine All.i fun X => ?_ | refine AllY.i fun Y => ?_)); refine AOps.nil ?_; (repeat refine WN ?_)
      (repeat refine WF ?_); refine AWP.region ?_; (repeat (first | (refine AOps.gN ?_; first | (refine AOps.g_callf ?_; first | refine AOps.c3 (h := (r2 ..)) (k := ?_))) | refine WO ?_ | refine All.i fun X => ?_ | refine AllY.i fun Y => ?_)); refine AOps.nil ?_; (repeat refine WN ?_)
      (repeat refine WF ?_); refine AWP.region ?_; (repeat (first | (refine AOps.gN ?_; first | (refine AOps.g_callf ?_; first | refine AOps.c2 (h := (r3 ..)) (k := ?_))) | refine WO ?_ | refine All.i fun X => ?_ | refine AllY.i fun Y => ?_)); refine AOps.nil ?_; (repeat refine WN ?_)
      refine AWP.cond_f rfl rfl ?_
      (repeat (first | refine WK ?_ | refine All.i fun X => ?_ | refine AllY.i fun Y => ?_))
      refine lp_next (b + 1) hbl
    · (repeat (first | refine WK ?_ | refine All.i fun X => ?_ | refine AllY.i fun Y => ?_))
      refine lp_next (a + 1) h
  · (repeat first | refine AOps.nil ?_ | refine WF ?_)
    have q7 := sameT_ps u u p10.wl
    rw [decide_eq_true rfl] at q7
    (repeat refine WF ?_); refine AWP.region ?_; (repeat (first | (refine AOps.gN ?_; first | (refine AOps.g_callf ?_; first | refine AOps.c3 (h := (q2 ..)) (k := ?_))) | refine WO ?_ | refine All.i fun U1 => ?_ | refine AllY.i fun Y => ?_)); refine AOps.nil ?_; (repeat refine WN ?_)
    (repeat refine WF ?_); refine AWP.region ?_; (repeat (first | (refine AOps.gN ?_; first | (refine AOps.g_callf ?_; first | refine AOps.c3 (h := (q3 ..)) (k := ?_))) | refine WO ?_ | refine All.i fun U2 => ?_ | refine AllY.i fun Y => ?_)); refine AOps.nil ?_; (repeat refine WN ?_)
    (repeat refine WF ?_); refine AWP.region ?_; (repeat (first | (refine AOps.gN ?_; first | (refine AOps.g_callf ?_; first | refine AOps.c2 (h := (q7 ..)) (k := ?_))) | refine WO ?_ | refine All.i fun X => ?_ | refine AllY.i fun Y => ?_)); refine AOps.nil ?_; (repeat refine WN ?_)
    (refine AWP.ret ?_; (repeat (first | refine inB_r ?_ | refine andThen_r ?_)); refine retQ_r ?_); refine Ends.ps ?_
    rfl
theorem worldGets_calls (z0 : List Int) (A0 : Option Addr) (n0 cap0 : Nat) (z1 : Int) (z2 : List Int) (A2 : Option Addr) (n2 cap2 : Nat) (z3 : List Int) (A3 : Option Addr) (n3 cap3 : Nat) (w : World) (h0 : Ints w (Lt w) (.slice A0 n0 cap0) z0) (hlen0 : z0.length * 8 ≤ 140737488351232) (hx1 : I64 z1) (h2 : Ints w (Lt w) (.slice A2 n2 cap2) z2) (hlen2 : z2.length * 8 ≤ 140737488351232) (h3 : Ints w (Lt w) (.slice A3 n3 cap3) z3) (hlen3 : z3.length * 8 ≤ 140737488351232) :
    Calls Try.prog 3 #[.slice A0 n0 cap0, .int .i64 z1, .slice A2 n2 cap2, .slice A3 n3 cap3] w fun e w' => e = .returned (.bool true) ∧ Below w.heap.size w w' :=
  (worldGets_ps z0 z1 z2 z3 hlen0 hlen2 hlen3 hx1).calls_bool (vts_ints h0 (vts_int (vts_ints h2 (vts_ints h3 (vts_nil)))))
end Go.Proofs.Ytcnfcilfacgnnaa

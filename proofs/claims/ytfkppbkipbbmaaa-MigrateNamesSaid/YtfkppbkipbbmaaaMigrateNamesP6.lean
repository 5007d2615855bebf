/-
  Part 6 of the texts under the law MigrateNames: the layer of abstract values, walks and plain laws. Conditions: those that each theorem names.
-/
import Derived.Test.YtfkppbkipbbmaaaMigrateNamesP5
namespace Go.Proofs.Ytfkppbkipbbmaaa
set_option linter.unusedVariables false
/-- The first i fields, kinds out of a stream, and the stream behind them. -/
def fAt : Nat → List Int → List Field × List Int
  | 0, l => ([], l)
  | i + 1, l => ((fAt i l).1 ++ [(genField i (fAt i l).2).1], (genField i (fAt i l).2).2)
def kAt : Nat → List Int → List Kind × List Int
  | 0, l => ([], l)
  | i + 1, l => ((kAt i l).1 ++ [(genKind i (kAt i l).2).1], (genKind i (kAt i l).2).2)
theorem fAt_len (i : Nat) (l : List Int) : (fAt i l).1.length = i := by
  induction i with
  | zero => rfl
  | succ i ih => simp [fAt, ih]
theorem kAt_len (i : Nat) (l : List Int) : (kAt i l).1.length = i := by
  induction i with
  | zero => rfl
  | succ i ih => simp [kAt, ih]
theorem fAt_gen (c i : Nat) (l : List Int) : ((fAt i l).1 ++ (genFields i c (fAt i l).2).1, (genFields i c (fAt i l).2).2) = fAt (i + c) l := by
  induction c generalizing i with
  | zero => simp [genFields]
  | succ c ih =>
    rw [show i + (c + 1) = (i + 1) + c from by omega, ← ih (i + 1)]
    simp [genFields, fAt]
theorem kAt_gen (c i : Nat) (l : List Int) : ((kAt i l).1 ++ (genKindsFrom i c (kAt i l).2).1, (genKindsFrom i c (kAt i l).2).2) = kAt (i + c) l := by
  induction c generalizing i with
  | zero => simp [genKindsFrom]
  | succ c ih =>
    rw [show i + (c + 1) = (i + 1) + c from by omega, ← ih (i + 1)]
    simp [genKindsFrom, kAt]
theorem genFields_at (c : Nat) (l : List Int) : genFields 0 c l = fAt c l := by
  have := fAt_gen c 0 l
  simpa [fAt] using this
theorem genKinds_at (l : List Int) : genKinds l = kAt (1 + nextV l 4).toNat (nextL l 4) := by
  have := kAt_gen (1 + nextV l 4).toNat 0 (nextL l 4)
  simpa [kAt, genKinds] using this
theorem knames_at {i : Nat} (h : i < 4) : [sA [115, 112, 111, 116], sA [108, 105, 102, 101], sA [116, 101, 97, 109], sA [103, 111, 97, 108]][i]? = some (sA (kindName i)) := by
  have : i = 0 ∨ i = 1 ∨ i = 2 ∨ i = 3 := by omega
  rcases this with rfl | rfl | rfl | rfl <;> rfl
theorem fnames_at {i : Nat} (h : i < 3) : [sA [120], sA [121], sA [122]][i]? = some (sA (fieldName i)) := by
  have : i = 0 ∨ i = 1 ∨ i = 2 := by omega
  rcases this with rfl | rfl | rfl <;> rfl
theorem kinds_po (G : Nat) (l : List Int) : PO Try.prog 43 [.ptr G 0 0] G (streamO l) (kindsA true false (genKinds l).1) (streamO (genKinds l).2) := by
  refine Spec.of (nt := 55) (res := [.tmp 2]) Try.func43 rfl (by kernel_rfl) rfl rfl rfl fun Sf => ?_
  have h0 := nextV_range l (n := 4) (by decide)
  (repeat (first | (refine AOps.gN ?_; first | (refine AOps.g_callf ?_; first | refine AOps.o2 (h := (next_po G _ _ (by decide))) (k := ?_))) | refine WK ?_ | refine All.i fun X => ?_ | refine AllY.i fun Y => ?_))

  refine AWP.adopt (d := 3) 44 2 rfl fun K => ?_
  obtain ⟨c, hc⟩ : ∃ c : Nat, 1 + nextV l 4 = c := ⟨(1 + nextV l 4).toNat, by omega⟩
  obtain ⟨l0, hl0⟩ : ∃ l0, nextL l 4 = l0 := ⟨_, rfl⟩
  have hg : genKinds l = kAt c l0 := by rw [genKinds_at, hl0, show (1 + nextV l 4).toNat = c from by omega]
  rw [hg, hl0, hc]
  have hc4 : 1 ≤ c ∧ c ≤ 4 := by omega
  clear hg hl0 hc h0
  refine AWP.lp4 (fun (i K : Nat) (M : List AV) (q : List Int) => ⟨[(0, .ptr G 0 0), (3, .sl K 0 i), (10, iA c), (11, iA i)], (K, .row 44 2 M) :: (G, streamO q) :: Sf⟩) (fun i _ M q => i ≤ c ∧ M = (kAt i l0).1.map (kindA false) ∧ M.length = i ∧ q = (kAt i l0).2) (fun i _ _ _ => c - i) 0 K [] l0 ⟨Nat.zero_le _, rfl, rfl, rfl⟩ ?_
  rintro i K M q ⟨hi, hM, hMl, hq⟩
  (repeat (first | refine WK ?_ | refine All.i fun X => ?_ | refine AllY.i fun Y => ?_))
  refine AWP.cond rfl (fun hb => ?_) (fun hb => ?_)
  · have h : i < c := by rw [decide_eq_true_eq] at hb; omega
    have h4 : i < 4 := by omega
    have h3 := nextV_range q (n := 3) (by decide)
    have hkn := knames_at h4
    (repeat (first | (refine AOps.gN ?_; first | (refine AOps.g_callf ?_; first | refine AOps.o2 (h := (next_po G _ _ (by decide))) (k := ?_))) | refine WK ?_ | refine All.i fun Y => ?_ | refine AllY.i fun Y => ?_))
    refine AWP.adoptIn (Y := Y) 41 3 .here (fun F => .cons (.agg (.cons .same (.cons (.base .nil) .nil))) .nil) fun F => ?_
    obtain ⟨l1, hl1⟩ : ∃ l1, nextL q 3 = l1 := ⟨_, rfl⟩
    obtain ⟨c1, hc1⟩ : ∃ c1 : Nat, 1 + nextV q 3 = c1 := ⟨(1 + nextV q 3).toNat, by omega⟩
    have hgk : kAt (i + 1) l0 = ((kAt i l0).1 ++ [⟨kindName i, (fAt c1 l1).1⟩], (fAt c1 l1).2) := by
      rw [kAt, ← hq, genKind, genFields_at, show (1 + nextV q 3).toNat = c1 from by omega, hl1]
    rw [hl1, hc1]
    have hc13 : c1 ≤ 3 := by omega
    refine AWP.lp4 (fun (j F : Nat) (L : List AV) (r : List Int) => ⟨[(0, .ptr G 0 0), (3, .sl K 0 i), (5, .ptr Y 0 0), (10, iA c), (11, iA i), (21, iA c1), (22, iA j)], (F, .row 41 3 L) :: (Y, .row 44 2 [.agg [sA (kindName i), .sl F 0 j]]) :: (K, .row 44 2 M) :: (G, streamO r) :: Sf⟩) (fun j _ L r => j ≤ c1 ∧ L = (fAt j l1).1.map fieldA ∧ L.length = j ∧ r = (fAt j l1).2) (fun j _ _ _ => c1 - j) 0 F [] l1 ⟨Nat.zero_le _, rfl, rfl, rfl⟩ ?_
    rintro j F L r ⟨hj, hL, hLl, hr⟩
    (repeat (first | refine WK ?_ | refine All.i fun X => ?_ | refine AllY.i fun Y => ?_))
    refine AWP.cond rfl (fun hd => ?_) (fun hd => ?_)
    · have hj' : j < c1 := by rw [decide_eq_true_eq] at hd; omega
      have h9 := nextV_range r (n := 9) (by decide)
      have h40 := nextV_range (nextL r 9) (n := 40) (by decide)
      have hfn := fnames_at (i := j) (by omega)
      (repeat (first | refine WK ?_ | refine All.i fun X => ?_ | refine AllY.i fun Y => ?_))
      refine AWP.rs fun X7 => ?_
      (repeat refine WF ?_); refine AWP.region_run (by kernel_rfl) (by kernel_rfl) ?_; (repeat (first | (refine RGo.gN ?_; first | (refine RGo.g_callf ?_; first | refine RGo.o2 (h := (next_po G _ _ (by decide))) (k := ?_))) | (refine RGo.gQ ?_; first | (refine RGo.g_callf ?_; first | refine RGo.o2 (h := (next_po G _ _ (by decide))) (k := ?_))) | refine RK ?_ | refine RGo.nil (by kernel_rfl) ?_))
      (repeat (first | (refine AOps.gN ?_; first | (refine AOps.g_callf ?_; first | refine AOps.o2 (h := (next_po G _ _ (by decide))) (k := ?_))) | refine WK ?_ | refine All.i fun X => ?_ | refine AllY.i fun Y => ?_))
      refine AWP.cond rfl (fun he => ?_) (fun he => ?_)
      · have he : nextV (nextL (nextL r 9) 40) 8 = 7 := by simpa using he
        have hg : genField j r = (⟨fieldName j, 32, -2147483648⟩, nextL (nextL (nextL r 9) 40) 8) := by rw [genField, if_pos he]
        (repeat (first | (refine AOps.gN ?_; first | (refine AOps.g_lit ?_; refine AOps.goL (fieldA ⟨fieldName j, 32, -2147483648⟩) ?_)) | refine WK ?_ | refine All.i fun X => ?_ | refine AllY.i fun Y => ?_))
        refine lp_next4 (j + 1) Y _ _ ⟨hj', ?_, ?_, ?_⟩
        · rw [fAt, ← hr, hg, hL, List.map_append]; rfl
        · rw [List.length_append, hLl]; rfl
        · rw [fAt, ← hr, hg]
      · have he : nextV (nextL (nextL r 9) 40) 8 ≠ 7 := by simpa using he
        have hg : genField j r = (⟨fieldName j, 1 + nextV r 9, nextV (nextL r 9) 40 - 30⟩, nextL (nextL (nextL r 9) 40) 8) := by rw [genField, if_neg he]
        (repeat (first | (refine AOps.gN ?_; first | (refine AOps.g_lit ?_; refine AOps.goL (fieldA ⟨fieldName j, 1 + nextV r 9, nextV (nextL r 9) 40 - 30⟩) ?_)) | refine WK ?_ | refine All.i fun X => ?_ | refine AllY.i fun Y => ?_))
        refine lp_next4 (j + 1) Y _ _ ⟨hj', ?_, ?_, ?_⟩
        · rw [fAt, ← hr, hg, hL, List.map_append]; rfl
        · rw [List.length_append, hLl]; rfl
        · rw [fAt, ← hr, hg]
    · have hj' : j = c1 := by rw [decide_eq_false_iff_not] at hd; omega
      subst hj'
      (repeat first | refine AOps.nil ?_ | refine WF ?_)
      refine AWP.iceIn (X := F) (Y := Y) .here (.next .here) rfl (.cons (.agg (.cons .same (.cons (.base (.sl (by omega))) .nil))) .nil) ?_
      have hF : AV.frzs ((L.drop 0).take j) = (fAt j l1).1.map fieldA := by
        rw [List.drop_zero, List.take_of_length_le (by omega), hL]
        exact Frzs.h
      rw [hF]
      (repeat (first | (refine AOps.gN ?_; first | (refine AOps.g_lit ?_; refine AOps.goL (kindA false ⟨kindName i, (fAt j l1).1⟩) ?_)) | refine WK ?_ | refine All.i fun X => ?_ | refine AllY.i fun Y => ?_))
      refine lp_next4 (i + 1) Y _ _ ⟨h, ?_, ?_, ?_⟩
      · rw [hgk, hM, List.map_append]; rfl
      · rw [List.length_append, hMl]; rfl
      · rw [hgk, hr]
  · have h : i = c := by rw [decide_eq_false_iff_not] at hb; omega
    subst h
    (repeat (first | refine WK ?_ | refine All.i fun X => ?_ | refine AllY.i fun Y => ?_))
    (refine AWP.ret ?_; (repeat (first | refine inB_r ?_ | refine andThen_r ?_)); refine retQ_r ?_)
    subst hM hq
    refine ⟨[.sl K 0 i], [.lst true 44 2 ((kAt i l0).1.map (kindA false))], _, [(G, streamO (kAt i l0).2)], .cons (.tmp rfl) rfl .nil, .cons (.cell (.sl (p := 0) .here (by rw [List.length_map, kAt_len]))) .nil, by exact Sub.f, rfl, rfl⟩
end Go.Proofs.Ytfkppbkipbbmaaa

namespace Go.Proofs.Ytfkppbkipbbmaaa
set_option linter.unusedVariables false
def baseKind : Kind := ⟨[108, 105, 102, 101], [⟨[120], 8, 0⟩]⟩
def baseWd : Wd := ⟨[baseKind], [0], [⟨⟨0, 0⟩, [⟨0, [9]⟩]⟩]⟩
theorem base_ps : PS Try.prog 47 [] (wdA false baseWd) := by
  refine Spec.of (nt := 14) (res := [.cell 0 26]) Try.func47 rfl (by kernel_rfl) rfl rfl rfl fun Sf => ?_
  (repeat (first | refine WK ?_ | refine All.i fun X => ?_ | refine AllY.i fun Y => ?_))
  (refine AWP.ret ?_; (repeat (first | refine inB_r ?_ | refine andThen_r ?_)); refine retQ_r ?_)
  refine Ends.id (rs := [wdA false baseWd]) rfl (.cons (.cell (p := 0) rfl .here TAg.h TSize.h rfl rfl) rfl .nil)
theorem equalI_ps (a b : List Int) (hl : a.length ≤ 1099511627776) : PS Try.prog 20 [intsA false a, intsA false b] (bA (decide (a = b))) := by
  refine Spec.of (nt := 26) (res := [.tmp 4]) Try.func20 rfl (by kernel_rfl) rfl rfl rfl fun Sf => ?_
  (repeat (first | refine WK ?_ | refine All.i fun X => ?_ | refine AllY.i fun Y => ?_))
  refine AWP.cond rfl (fun hb => ?_) (fun hb => ?_)
  · have hb : a.length ≠ b.length := by simp at hb; omega
    (repeat (first | refine WK ?_ | refine All.i fun X => ?_ | refine AllY.i fun Y => ?_))
    (refine AWP.ret ?_; (repeat (first | refine inB_r ?_ | refine andThen_r ?_)); refine retQ_r ?_); refine Ends.ps ?_
    rw [decide_eq_false fun e => hb (by rw [e])]
  · have hb : a.length = b.length := by simp at hb; omega
    (repeat (first | refine WK ?_ | refine All.i fun X => ?_ | refine AllY.i fun Y => ?_))
    refine AWP.lp (fun i : Nat => ⟨[(0, intsA false a), (1, intsA false b), (12, iA (a.map iA).length), (13, iA i)], Sf⟩) (fun i => i ≤ a.length ∧ ∀ j (h : j < a.length), j < i → a[j] = b[j]'(by omega)) (fun i => a.length - i) 0 ⟨Nat.zero_le _, fun j h hj => absurd hj (by omega)⟩ ?_
    rintro i ⟨hi, he⟩
    (repeat (first | refine WK ?_ | refine All.i fun X => ?_ | refine AllY.i fun Y => ?_))
    refine AWP.cond rfl (fun hc => ?_) (fun hc => ?_)
    · have h : i < a.length := by simpa using hc
      have h' : i < b.length := by omega
      (repeat (first | refine WK ?_ | refine All.i fun X => ?_ | refine AllY.i fun Y => ?_))
      (repeat refine WF ?_); refine AWP.region_run (by kernel_rfl) (by kernel_rfl) ?_; (repeat (first | refine RK ?_ | refine RGo.nil (by kernel_rfl) ?_))
      (repeat (first | refine WK ?_ | refine All.i fun X => ?_ | refine AllY.i fun Y => ?_))
      refine AWP.cond rfl (fun hd => ?_) (fun hd => ?_)
      · have hd : a[i] ≠ b[i] := by simpa using hd
        (repeat (first | refine WK ?_ | refine All.i fun X => ?_ | refine AllY.i fun Y => ?_))
        (refine AWP.ret ?_; (repeat (first | refine inB_r ?_ | refine andThen_r ?_)); refine retQ_r ?_); refine Ends.ps ?_
        rw [decide_eq_false fun e => hd (by subst e; rfl)]
      · have hd : a[i] = b[i] := by simpa using hd
        (repeat (first | refine WK ?_ | refine All.i fun X => ?_ | refine AllY.i fun Y => ?_))
        refine lp_next (i + 1) ⟨h, fun j h1 h2 => ?_⟩
        by_cases e : j = i
        · subst e; exact hd
        · exact he j h1 (by omega)
    · have h : ¬ i < a.length := by simpa using hc
      (repeat (first | refine WK ?_ | refine All.i fun X => ?_ | refine AllY.i fun Y => ?_))
      (refine AWP.ret ?_; (repeat (first | refine inB_r ?_ | refine andThen_r ?_)); refine retQ_r ?_); refine Ends.ps ?_
      rw [decide_eq_true (List.ext_getElem hb fun j h1 h2 => he j h1 (by omega))]
end Go.Proofs.Ytfkppbkipbbmaaa

namespace Go.Proofs.Ytfkppbkipbbmaaa
set_option linter.unusedVariables false
def eqF {α : Type} (p : α → α → Bool) : List α → List α → Bool
  | [], [] => true
  | x :: xs, y :: ys => p x y && eqF p xs ys
  | _, _ => false
theorem eqF_len {α : Type} {p : α → α → Bool} : {a b : List α} → a.length ≠ b.length → eqF p a b = false
  | [], [], h => absurd rfl h
  | [], _ :: _, _ => rfl
  | _ :: _, [], _ => rfl
  | x :: xs, y :: ys, h => by rw [eqF, eqF_len (by simpa using h), Bool.and_false]
theorem eqF_no {α : Type} {p : α → α → Bool} : {a b : List α} → (hl : a.length = b.length) → {i : Nat} → (h : i < a.length) → p a[i] (b[i]'(by omega)) = false → eqF p a b = false
  | [], _, _, _, h, _ => absurd h (by simp)
  | x :: xs, [], hl, _, _, _ => by simp at hl
  | x :: xs, y :: ys, hl, 0, h, hp => by rw [eqF, show p x y = false from hp, Bool.false_and]
  | x :: xs, y :: ys, hl, i + 1, h, hp => by
    rw [eqF, eqF_no (a := xs) (b := ys) (by simpa using hl) (i := i) (by simpa using h) hp, Bool.and_false]
theorem eqF_yes {α : Type} {p : α → α → Bool} : {a b : List α} → (hl : a.length = b.length) → (∀ i (h : i < a.length), p a[i] (b[i]'(by omega)) = true) → eqF p a b = true
  | [], [], _, _ => rfl
  | [], _ :: _, hl, _ => by simp at hl
  | x :: xs, [], hl, _ => by simp at hl
  | x :: xs, y :: ys, hl, h => by
    rw [eqF, show p x y = true from h 0 (by simp), eqF_yes (a := xs) (b := ys) (by simpa using hl) fun i hi => h (i + 1) (by simpa using hi)]; rfl
/-- A test that tells equality. -/
theorem eqF_eq {α : Type} {p : α → α → Bool} [DecidableEq α] : {a b : List α} → (∀ x ∈ a, ∀ y ∈ b, p x y = decide (x = y)) → eqF p a b = decide (a = b)
  | [], [], _ => rfl
  | [], _ :: _, _ => rfl
  | _ :: _, [], _ => rfl
  | x :: xs, y :: ys, h => by
    rw [eqF, h x (by simp) y (by simp), eqF_eq fun u hu v hv => h u (by simp [hu]) v (by simp [hv])]
    by_cases e : x = y <;> by_cases e2 : xs = ys <;> simp [e, e2]
end Go.Proofs.Ytfkppbkipbbmaaa

namespace Go.Proofs.Ytfkppbkipbbmaaa
set_option linter.unusedVariables false
theorem equalFuncC_ps (a b : List Comp) (f : FuncId) (cap : List AV) (p : Comp → Comp → Bool) (hs : st1s cap = true) (hl : a.length ≤ 4611686018427387904) (hf : ∀ x ∈ a, ∀ y ∈ b, PS Try.prog f ((compA false) x :: (compA false) y :: cap) (bA (p x y))) :
    PS Try.prog 95 [.lst false 141 2 (a.map (compA false)), .lst false 141 2 (b.map (compA false)), .fn f cap] (bA (eqF p a b)) := by
  refine Spec.of (nt := 32) (res := [.tmp 6]) Try.func95 rfl (by kernel_rfl) rfl rfl rfl fun Sf => ?_
  (repeat (first | refine WK ?_ | refine All.i fun X => ?_ | refine AllY.i fun Y => ?_))
  refine AWP.cond rfl (fun hb => ?_) (fun hb => ?_)
  · have hb : a.length ≠ b.length := by simp at hb; omega
    (repeat (first | refine WK ?_ | refine All.i fun X => ?_ | refine AllY.i fun Y => ?_))
    (refine AWP.ret ?_; (repeat (first | refine inB_r ?_ | refine andThen_r ?_)); refine retQ_r ?_); refine Ends.ps ?_
    rw [eqF_len hb]
  · have hb : a.length = b.length := by simp at hb; omega
    (repeat (first | refine WK ?_ | refine All.i fun X => ?_ | refine AllY.i fun Y => ?_))
    refine AWP.lp (fun i : Nat => ⟨[(0, .lst false 141 2 (a.map (compA false))), (1, .lst false 141 2 (b.map (compA false))), (2, .fn f cap), (15, .lst false 141 2 (a.map (compA false))), (16, iA (a.map (compA false)).length), (17, iA i)], Sf⟩) (fun i => i ≤ a.length ∧ ∀ j (h : j < a.length), j < i → p a[j] (b[j]'(by omega)) = true) (fun i => a.length - i) 0 ⟨Nat.zero_le _, fun j h hj => absurd hj (by omega)⟩ ?_
    rintro i ⟨hi, he⟩
    (repeat (first | refine WK ?_ | refine All.i fun X => ?_ | refine AllY.i fun Y => ?_))
    refine AWP.cond rfl (fun hc => ?_) (fun hc => ?_)
    · have h : i < a.length := by simpa using hc
      have h' : i < b.length := by omega
      (repeat (first | (refine AOps.gN ?_; first | (refine AOps.g_callv ?_; first | refine AOps.k2 (h := (hf _ (List.getElem_mem h) _ (List.getElem_mem h'))) (k := ?_))) | refine WK ?_ | refine All.i fun X => ?_ | refine AllY.i fun Y => ?_))
      refine AWP.cond rfl (fun hd => ?_) (fun hd => ?_)
      · have hd : p a[i] b[i] = false := by simpa using hd
        (repeat (first | refine WK ?_ | refine All.i fun X => ?_ | refine AllY.i fun Y => ?_))
        (refine AWP.ret ?_; (repeat (first | refine inB_r ?_ | refine andThen_r ?_)); refine retQ_r ?_); refine Ends.ps ?_
        rw [eqF_no hb h hd]
      · have hd : p a[i] b[i] = true := by simpa using hd
        (repeat (first | refine WK ?_ | refine All.i fun X => ?_ | refine AllY.i fun Y => ?_))
        refine lp_next (i + 1) ⟨h, fun j h1 h2 => ?_⟩
        by_cases e : j = i
        · subst e; exact hd
        · exact he j h1 (by omega)
    · have h : ¬ i < a.length := by simpa using hc
      (repeat (first | refine WK ?_ | refine All.i fun X => ?_ | refine AllY.i fun Y => ?_))
      (refine AWP.ret ?_; (repeat (first | refine inB_r ?_ | refine andThen_r ?_)); refine retQ_r ?_); refine Ends.ps ?_
      rw [eqF_yes hb fun j hj => he j hj (by omega)]
end Go.Proofs.Ytfkppbkipbbmaaa

namespace Go.Proofs.Ytfkppbkipbbmaaa
set_option linter.unusedVariables false
theorem equalFuncT_ps (a b : List Item) (f : FuncId) (cap : List AV) (p : Item → Item → Bool) (hs : st1s cap = true) (hl : a.length ≤ 4611686018427387904) (hf : ∀ x ∈ a, ∀ y ∈ b, PS Try.prog f ((itemA false) x :: (itemA false) y :: cap) (bA (p x y))) :
    PS Try.prog 56 [.lst false 36 3 (a.map (itemA false)), .lst false 36 3 (b.map (itemA false)), .fn f cap] (bA (eqF p a b)) := by
  refine Spec.of (nt := 32) (res := [.tmp 6]) Try.func56 rfl (by kernel_rfl) rfl rfl rfl fun Sf => ?_
  (repeat (first | refine WK ?_ | refine All.i fun X => ?_ | refine AllY.i fun Y => ?_))
  refine AWP.cond rfl (fun hb => ?_) (fun hb => ?_)
  · have hb : a.length ≠ b.length := by simp at hb; omega
    (repeat (first | refine WK ?_ | refine All.i fun X => ?_ | refine AllY.i fun Y => ?_))
    (refine AWP.ret ?_; (repeat (first | refine inB_r ?_ | refine andThen_r ?_)); refine retQ_r ?_); refine Ends.ps ?_
    rw [eqF_len hb]
  · have hb : a.length = b.length := by simp at hb; omega
    (repeat (first | refine WK ?_ | refine All.i fun X => ?_ | refine AllY.i fun Y => ?_))
    refine AWP.lp (fun i : Nat => ⟨[(0, .lst false 36 3 (a.map (itemA false))), (1, .lst false 36 3 (b.map (itemA false))), (2, .fn f cap), (15, .lst false 36 3 (a.map (itemA false))), (16, iA (a.map (itemA false)).length), (17, iA i)], Sf⟩) (fun i => i ≤ a.length ∧ ∀ j (h : j < a.length), j < i → p a[j] (b[j]'(by omega)) = true) (fun i => a.length - i) 0 ⟨Nat.zero_le _, fun j h hj => absurd hj (by omega)⟩ ?_
    rintro i ⟨hi, he⟩
    (repeat (first | refine WK ?_ | refine All.i fun X => ?_ | refine AllY.i fun Y => ?_))
    refine AWP.cond rfl (fun hc => ?_) (fun hc => ?_)
    · have h : i < a.length := by simpa using hc
      have h' : i < b.length := by omega
      (repeat (first | (refine AOps.gN ?_; first | (refine AOps.g_callv ?_; first | refine AOps.k2 (h := (hf _ (List.getElem_mem h) _ (List.getElem_mem h'))) (k := ?_))) | refine WK ?_ | refine All.i fun X => ?_ | refine AllY.i fun Y => ?_))
      refine AWP.cond rfl (fun hd => ?_) (fun hd => ?_)
      · have hd : p a[i] b[i] = false := by simpa using hd
        (repeat (first | refine WK ?_ | refine All.i fun X => ?_ | refine AllY.i fun Y => ?_))
        (refine AWP.ret ?_; (repeat (first | refine inB_r ?_ | refine andThen_r ?_)); refine retQ_r ?_); refine Ends.ps ?_
        rw [eqF_no hb h hd]
      · have hd : p a[i] b[i] = true := by simpa using hd
        (repeat (first | refine WK ?_ | refine All.i fun X => ?_ | refine AllY.i fun Y => ?_))
        refine lp_next (i + 1) ⟨h, fun j h1 h2 => ?_⟩
        by_cases e : j = i
        · subst e; exact hd
        · exact he j h1 (by omega)
    · have h : ¬ i < a.length := by simpa using hc
      (repeat (first | refine WK ?_ | refine All.i fun X => ?_ | refine AllY.i fun Y => ?_))
      (refine AWP.ret ?_; (repeat (first | refine inB_r ?_ | refine andThen_r ?_)); refine retQ_r ?_); refine Ends.ps ?_
      rw [eqF_yes hb fun j hj => he j hj (by omega)]
end Go.Proofs.Ytfkppbkipbbmaaa

namespace Go.Proofs.Ytfkppbkipbbmaaa
set_option linter.unusedVariables false
theorem fieldNeq (f g : Field) (w : World) : (binOp .neq 41 (.agg [strA f.name, .int .i64 f.bits, .int .i64 f.low].toArray) (.agg [strA g.name, .int .i64 g.bits, .int .i64 g.low].toArray)).run Try.prog w = .ok (.bool (decide (f ≠ g))) w := by
  have h := eq_three (P := Try.prog) (t := 41) (by kernel_rfl) (by kernel_rfl) (by kernel_rfl) ⟨f.name.toArray⟩ ⟨g.name.toArray⟩ f.bits f.low g.bits g.low w
  rw [run_neq_struct]
  have e : (Op.equalIn 10000 41 (.agg [strA f.name, .int .i64 f.bits, .int .i64 f.low].toArray) (.agg [strA g.name, .int .i64 g.bits, .int .i64 g.low].toArray)).run Try.prog w = _ := h
  rw [e, Result.andThen_ok, toList_mk, toList_mk]
  have hd : (!(decide (f.name = g.name) && decide (f.bits = g.bits) && decide (f.low = g.low))) = decide (f ≠ g) := by
    obtain ⟨n, b, l⟩ := f
    obtain ⟨n', b', l'⟩ := g
    rw [Bool.eq_iff_iff]
    simp [or_assoc]
  rw [hd]
/-- Bounds on the lengths of lists. -/
def KsL (ks : List Kind) : Prop := ks.length ≤ 1099511627776 ∧ ∀ k ∈ ks, k.fields.length ≤ 1099511627776
def CsL (cs : List Comp) : Prop := cs.length ≤ 1099511627776 ∧ ∀ c ∈ cs, c.vals.length ≤ 1099511627776
def ItL (l : List Item) : Prop := l.length ≤ 1099511627776 ∧ ∀ it ∈ l, CsL it.comps
structure WdL (w : Wd) : Prop where
  ks : KsL w.kinds
  gens : w.gens.length ≤ 1099511627776
  items : ItL w.items
theorem kindSame_ps (a b : List Kind) (hl : KsL a) : PS Try.prog 85 [kindsA false false a, kindsA false false b] (bA (decide (a = b))) := by
  refine Spec.of (nt := 71) (res := [.tmp 4]) Try.func85 rfl (by kernel_rfl) rfl rfl rfl fun Sf => ?_
  obtain ⟨hl0, hl1⟩ := hl
  (repeat (first | refine WK ?_ | refine All.i fun X => ?_ | refine AllY.i fun Y => ?_))
  refine AWP.cond rfl (fun hb => ?_) (fun hb => ?_)
  · have hb : a.length ≠ b.length := by simp at hb; omega
    (repeat (first | refine WK ?_ | refine All.i fun X => ?_ | refine AllY.i fun Y => ?_))
    (refine AWP.ret ?_; (repeat (first | refine inB_r ?_ | refine andThen_r ?_)); refine retQ_r ?_); refine Ends.ps ?_
    rw [decide_eq_false fun e => hb (by rw [e])]
  · have hb : a.length = b.length := by simp at hb; omega
    (repeat (first | refine WK ?_ | refine All.i fun X => ?_ | refine AllY.i fun Y => ?_))
    refine AWP.lp (fun i : Nat => ⟨[(0, kindsA false false a), (1, kindsA false false b), (13, iA (a.map (kindA false)).length), (14, iA i)], Sf⟩) (fun i => i ≤ a.length ∧ ∀ j (h : j < a.length), j < i → a[j] = b[j]'(by omega)) (fun i => a.length - i) 0 ⟨Nat.zero_le _, fun j h hj => absurd hj (by omega)⟩ ?_
    rintro i ⟨hi, he⟩
    (repeat (first | refine WK ?_ | refine All.i fun X => ?_ | refine AllY.i fun Y => ?_))
    refine AWP.cond rfl (fun hc => ?_) (fun hc => ?_)
    · have h : i < a.length := by simpa using hc
      have h' : i < b.length := by omega
      obtain ⟨x, hx⟩ : ∃ x, a[i] = x := ⟨_, rfl⟩
      obtain ⟨y, hy⟩ : ∃ y, b[i] = y := ⟨_, rfl⟩
      have hax : (a.map (kindA false))[i]? = some (kindA false x) := by rw [List.getElem?_map, List.getElem?_eq_getElem h, hx]; rfl
      have hay : (b.map (kindA false))[i]? = some (kindA false y) := by rw [List.getElem?_map, List.getElem?_eq_getElem h', hy]; rfl
      have hxl := hl1 x (hx ▸ List.getElem_mem h)
      have hno : ¬ x = y → ¬ a = b := fun hn e => hn (by subst e; rw [← hx, ← hy])
      (repeat (first | refine WK ?_ | refine All.i fun X => ?_ | refine AllY.i fun Y => ?_))
      (repeat refine WF ?_); refine AWP.region_run (by kernel_rfl) (by kernel_rfl) ?_; (repeat (first | refine RK ?_ | refine RGo.nil (by kernel_rfl) ?_))
      refine AWP.cond rfl (fun hd => ?_) (fun hd => ?_)
      · (repeat (first | refine WK ?_ | refine All.i fun X => ?_ | refine AllY.i fun Y => ?_))
        (refine AWP.ret ?_; (repeat (first | refine inB_r ?_ | refine andThen_r ?_)); refine retQ_r ?_); refine Ends.ps ?_
        rw [decide_eq_false (hno fun e => by subst e; simp at hd)]
      · have hd : x.name = y.name ∧ x.fields.length = y.fields.length := by simp at hd; exact ⟨hd.1, by omega⟩
        obtain ⟨hd1, hd2⟩ := hd
        (repeat (first | refine WK ?_ | refine All.i fun X => ?_ | refine AllY.i fun Y => ?_))
        refine AWP.lp (fun q : Nat => ⟨[(0, kindsA false false a), (1, kindsA false false b), (5, iA i), (13, iA (a.map (kindA false)).length), (14, iA i), (48, iA (x.fields.map fieldA).length), (49, iA q)], Sf⟩) (fun q => q ≤ x.fields.length ∧ ∀ j (h : j < x.fields.length), j < q → x.fields[j] = y.fields[j]'(by omega)) (fun q => x.fields.length - q) 0 ⟨Nat.zero_le _, fun j h hj => absurd hj (by omega)⟩ ?_
        rintro q ⟨hq, hqe⟩
        (repeat (first | refine WK ?_ | refine All.i fun X => ?_ | refine AllY.i fun Y => ?_))
        refine AWP.cond rfl (fun hg => ?_) (fun hg => ?_)
        · have hqx : q < x.fields.length := by simpa using hg
          have hqy : q < y.fields.length := by omega
          obtain ⟨f, hf⟩ : ∃ f, x.fields[q] = f := ⟨_, rfl⟩
          obtain ⟨g, hgf⟩ : ∃ g, y.fields[q] = g := ⟨_, rfl⟩
          have haf : (x.fields.map fieldA)[q]? = some (fieldA f) := by rw [List.getElem?_map, List.getElem?_eq_getElem hqx, hf]; rfl
          have hag : (y.fields.map fieldA)[q]? = some (fieldA g) := by rw [List.getElem?_map, List.getElem?_eq_getElem hqy, hgf]; rfl
          (repeat (first | refine WK ?_ | refine All.i fun X => ?_ | refine AllY.i fun Y => ?_))
          (repeat refine WF ?_); refine AWP.region_run (by kernel_rfl) (by kernel_rfl) ?_; (repeat (first | (refine RGo.gN ?_; first | refine RGo.p (W.neP _ _ (by kernel_rfl) (fieldNeq f g) rfl rfl) rfl ?_) | (refine RGo.gQ ?_; first | refine RGo.p (W.neP _ _ (by kernel_rfl) (fieldNeq f g) rfl rfl) rfl ?_) | refine RK ?_ | refine RGo.nil (by kernel_rfl) ?_))
          refine AWP.cond rfl (fun hn => ?_) (fun hn => ?_)
          · have hn : f ≠ g := by simpa using hn
            (repeat (first | refine WK ?_ | refine All.i fun X => ?_ | refine AllY.i fun Y => ?_))
            (refine AWP.ret ?_; (repeat (first | refine inB_r ?_ | refine andThen_r ?_)); refine retQ_r ?_); refine Ends.ps ?_
            rw [decide_eq_false (hno fun e => hn (by subst e; rw [← hf, ← hgf]))]
          · have hn : f = g := by simpa using hn
            (repeat (first | refine WK ?_ | refine All.i fun X => ?_ | refine AllY.i fun Y => ?_))
            refine lp_next (q + 1) ⟨hqx, fun j h1 h2 => ?_⟩
            by_cases e : j = q
            · subst e; rw [hf, hgf, hn]
            · exact hqe j h1 (by omega)
        · have hqx : ¬ q < x.fields.length := by simpa using hg
          (repeat (first | refine WK ?_ | refine All.i fun X => ?_ | refine AllY.i fun Y => ?_))
          refine lp_next (i + 1) ⟨h, fun j h1 h2 => ?_⟩
          by_cases e : j = i
          · subst e
            rw [hx, hy]
            have hfe : x.fields = y.fields := List.ext_getElem hd2 fun j h1 h2 => hqe j h1 (by omega)
            obtain ⟨xn, xf⟩ := x
            obtain ⟨yn, yf⟩ := y
            simp at hd1 hfe
            rw [hd1, hfe]
          · exact he j h1 (by omega)
    · have h : ¬ i < a.length := by simpa using hc
      (repeat (first | refine WK ?_ | refine All.i fun X => ?_ | refine AllY.i fun Y => ?_))
      (refine AWP.ret ?_; (repeat (first | refine inB_r ?_ | refine andThen_r ?_)); refine retQ_r ?_); refine Ends.ps ?_
      rw [decide_eq_true (List.ext_getElem hb fun j h1 h2 => he j h1 (by omega))]
theorem compEq (x y : Comp) : (decide (x.kind = y.kind) && decide (x.vals = y.vals)) = decide (x = y) := by
  obtain ⟨k, v⟩ := x
  obtain ⟨k', v'⟩ := y
  rw [Bool.eq_iff_iff]
  simp
theorem itemEq (x y : Item) : (sameE x.ent y.ent && decide (x.comps = y.comps)) = decide (x = y) := by
  rw [sameE_dec]
  obtain ⟨k, v⟩ := x
  obtain ⟨k', v'⟩ := y
  rw [Bool.eq_iff_iff]
  simp
theorem sameComps1_ps (x y : Comp) (hl : x.vals.length ≤ 1099511627776) : PS Try.prog 120 [compA false x, compA false y] (bA (decide (x = y))) := by
  have heq := equalI_ps x.vals y.vals hl
  rw [← compEq]
  refine Spec.of (nt := 17) (res := [.tmp 4]) Try.func120 rfl (by kernel_rfl) rfl rfl rfl fun Sf => ?_
  (repeat refine WF ?_); refine AWP.region ?_; (repeat (first | (refine AOps.gN ?_; first | (refine AOps.g_box ?_; refine AOps.goB ?_)) | refine WO ?_ | refine All.i fun X => ?_ | refine AllY.i fun Y => ?_)); refine AOps.nil ?_; (repeat refine WN ?_)
  rcases Bool.eq_false_or_eq_true (decide (x.kind = y.kind)) with g | g
  · rw [g]
    (repeat (first | (refine AOps.gN ?_; first | (refine AOps.g_callf ?_; first | refine AOps.c2 (h := (heq ..)) (k := ?_))) | refine WK ?_ | refine All.i fun X => ?_ | refine AllY.i fun Y => ?_))
    (refine AWP.ret ?_; (repeat (first | refine inB_r ?_ | refine andThen_r ?_)); refine retQ_r ?_); refine Ends.ps ?_
    rfl
  · rw [g]
    (repeat (first | refine WK ?_ | refine All.i fun X => ?_ | refine AllY.i fun Y => ?_))
    (refine AWP.ret ?_; (repeat (first | refine inB_r ?_ | refine andThen_r ?_)); refine retQ_r ?_); refine Ends.ps ?_
    rfl
theorem sameComps_ps (a b : List Comp) (hl : CsL a) : PS Try.prog 87 [compsA false false a, compsA false false b] (bA (decide (a = b))) := by
  have h := equalFuncC_ps a b 120 [] (fun x y => decide (x = y)) rfl (by have := hl.1; omega) (fun x hx y _ => sameComps1_ps x y (hl.2 x hx))
  rw [eqF_eq fun _ _ _ _ => rfl] at h
  refine Spec.of (nt := 8) (res := [.tmp 4]) Try.func87 rfl (by kernel_rfl) rfl rfl rfl fun Sf => ?_
  (repeat (first | (refine AOps.gN ?_; first | (refine AOps.g_callf ?_; first | refine AOps.c3 (h := (h ..)) (k := ?_))) | refine WK ?_ | refine All.i fun X => ?_ | refine AllY.i fun Y => ?_))
  (refine AWP.ret ?_; (repeat (first | refine inB_r ?_ | refine andThen_r ?_)); refine retQ_r ?_); refine Ends.ps ?_
  rfl
theorem same1_ps (x y : Item) (hl : CsL x.comps) : PS Try.prog 86 [itemA false x, itemA false y] (bA (decide (x = y))) := by
  have heq := sameComps_ps x.comps y.comps hl
  rw [← itemEq]
  refine Spec.of (nt := 17) (res := [.tmp 4]) Try.func86 rfl (by kernel_rfl) rfl rfl rfl fun Sf => ?_
  (repeat refine WF ?_); refine AWP.region ?_; (repeat (first | (refine AOps.gN ?_; first | (refine AOps.g_box ?_; refine AOps.goB ?_)) | refine WO ?_ | refine All.i fun X => ?_ | refine AllY.i fun Y => ?_)); refine AOps.nil ?_; (repeat refine WN ?_)
  have hE := entEql x.ent.n x.ent.gen y.ent.n y.ent.gen
  rw [show (decide (x.ent.n = y.ent.n) && decide (x.ent.gen = y.ent.gen)) = sameE x.ent y.ent from rfl] at hE
  cases hb : sameE x.ent y.ent
  · rw [hb] at hE
    (repeat (first | (refine AOps.gN ?_; first | refine AOps.p (W.eqP _ _ (by kernel_rfl) hE rfl rfl) rfl ?_) | refine WK ?_ | refine All.i fun X => ?_ | refine AllY.i fun Y => ?_))
    (refine AWP.ret ?_; (repeat (first | refine inB_r ?_ | refine andThen_r ?_)); refine retQ_r ?_); refine Ends.ps ?_
    rfl
  · rw [hb] at hE
    (repeat (first | (refine AOps.gN ?_; first | (refine AOps.g_callf ?_; first | refine AOps.c2 (h := (heq ..)) (k := ?_)) | refine AOps.p (W.eqP _ _ (by kernel_rfl) hE rfl rfl) rfl ?_) | refine WK ?_ | refine All.i fun X => ?_ | refine AllY.i fun Y => ?_))
    (refine AWP.ret ?_; (repeat (first | refine inB_r ?_ | refine andThen_r ?_)); refine retQ_r ?_); refine Ends.ps ?_
    rfl
theorem wdEq (x y : Wd) : (decide (x.kinds = y.kinds) && decide (x.gens = y.gens) && decide (x.items = y.items)) = decide (x = y) := by
  obtain ⟨k, v, u⟩ := x
  obtain ⟨k', v', u'⟩ := y
  rw [Bool.eq_iff_iff]
  simp [and_assoc]
set_option maxRecDepth 4000 in
theorem same_ps (a b : Wd) (hl : WdL a) : PS Try.prog 49 [wdA false a, wdA false b] (bA (decide (a = b))) := by
  have h1 := kindSame_ps a.kinds b.kinds hl.ks
  have h2 := equalI_ps a.gens b.gens hl.gens
  have h3 := equalFuncT_ps a.items b.items 86 [] (fun x y => decide (x = y)) rfl (by have := hl.items.1; omega) (fun x hx y _ => same1_ps x y (hl.items.2 x hx))
  rw [eqF_eq fun _ _ _ _ => rfl] at h3
  rw [← wdEq]
  refine Spec.of (nt := 24) (res := [.tmp 4]) Try.func49 rfl (by kernel_rfl) rfl rfl rfl fun Sf => ?_
  (repeat refine WF ?_); refine AWP.region ?_; (repeat (first | (refine AOps.gN ?_; first | (refine AOps.g_box ?_; refine AOps.goB ?_)) | refine WO ?_ | refine All.i fun X => ?_ | refine AllY.i fun Y => ?_)); refine AOps.nil ?_; (repeat refine WN ?_)
  obtain ⟨b1, e1⟩ : ∃ b1, decide (a.kinds = b.kinds) = b1 := ⟨_, rfl⟩
  obtain ⟨b2, e2⟩ : ∃ b2, decide (a.gens = b.gens) = b2 := ⟨_, rfl⟩
  rw [e1] at h1 ⊢
  rw [e2] at h2 ⊢
  cases b1
  · (repeat (first | (refine AOps.gN ?_; first | (refine AOps.g_callf ?_; first | refine AOps.c2 (h := (h1 ..)) (k := ?_))) | refine WK ?_ | refine All.i fun X => ?_ | refine AllY.i fun Y => ?_))
    (refine AWP.ret ?_; (repeat (first | refine inB_r ?_ | refine andThen_r ?_)); refine retQ_r ?_); refine Ends.ps ?_
    rfl
  · cases b2
    · (repeat (first | (refine AOps.gN ?_; first | (refine AOps.g_callf ?_; first | refine AOps.c2 (h := (h1 ..)) (k := ?_) | refine AOps.c2 (h := (h2 ..)) (k := ?_))) | refine WK ?_ | refine All.i fun X => ?_ | refine AllY.i fun Y => ?_))
      (refine AWP.ret ?_; (repeat (first | refine inB_r ?_ | refine andThen_r ?_)); refine retQ_r ?_); refine Ends.ps ?_
      rfl
    · (repeat (first | (refine AOps.gN ?_; first | (refine AOps.g_callf ?_; first | refine AOps.c2 (h := (h1 ..)) (k := ?_) | refine AOps.c2 (h := (h2 ..)) (k := ?_) | refine AOps.c3 (h := (h3 ..)) (k := ?_))) | refine WK ?_ | refine All.i fun X => ?_ | refine AllY.i fun Y => ?_))
      (refine AWP.ret ?_; (repeat (first | refine inB_r ?_ | refine andThen_r ?_)); refine retQ_r ?_); refine Ends.ps ?_
      rfl
end Go.Proofs.Ytfkppbkipbbmaaa

namespace Go.Proofs.Ytfkppbkipbbmaaa
set_option linter.unusedSimpArgs false
set_option linter.unusedVariables false

theorem genFields_len (i c : Nat) (l : List Int) : (genFields i c l).1.length = c := by
  induction c generalizing i l with
  | zero => rfl
  | succ c ih => simp [genFields, ih]
theorem genFields_names (i c : Nat) (l : List Int) : (genFields i c l).1.map (·.name) = (List.range' i c).map fieldName := by
  induction c generalizing i l with
  | zero => rfl
  | succ c ih =>
    have : (genField i l).1.name = fieldName i := by unfold genField; split <;> rfl
    simp [genFields, ih, List.range'_succ, this]
theorem genKindsFrom_len (k c : Nat) (l : List Int) : (genKindsFrom k c l).1.length = c := by
  induction c generalizing k l with
  | zero => rfl
  | succ c ih => simp [genKindsFrom, ih]
theorem genKindsFrom_names (k c : Nat) (l : List Int) : (genKindsFrom k c l).1.map (·.name) = (List.range' k c).map kindName := by
  induction c generalizing k l with
  | zero => rfl
  | succ c ih => simp [genKindsFrom, ih, List.range'_succ, genKind]

theorem fieldName_ok (i : Nat) : nameOk (fieldName i) = true := by
  unfold fieldName
  split <;> decide
theorem kindName_ok (i : Nat) : nameOk (kindName i) = true := by
  unfold kindName
  split <;> decide
theorem genField_ok (i : Nat) (l : List Int) : fieldErr (genField i l).1 = 0 := by
  have h1 := nextV_range l (n := 9) (by omega)
  have h2 := nextV_range (nextL l 9) (n := 40) (by omega)
  unfold genField
  split
  · simp [fieldErr, fieldName_ok]
  · simp [fieldErr, fieldName_ok]
    omega
theorem genFields_ok (i c : Nat) (l : List Int) : ∀ f ∈ (genFields i c l).1, fieldErr f = 0 := by
  induction c generalizing i l with
  | zero => intro f h; simp [genFields] at h
  | succ c ih =>
    intro f h
    simp only [genFields, List.mem_cons] at h
    rcases h with rfl | h
    · exact genField_ok i l
    · exact ih _ _ f h

theorem fieldsErr_nil0 : ∀ (fs pre : List Field), (∀ f ∈ fs, fieldErr f = 0) → ((pre ++ fs).map (·.name)).Nodup → fieldsErr pre fs = 0 := by
  intro fs
  induction fs with
  | nil => intro pre _ _; rfl
  | cons f fs ih =>
    intro pre h hn
    have h1 := h f (by simp)
    have h2 : pre.any (fun o => o.name == f.name) = false := by
      rw [List.any_eq_false]
      intro o ho
      simp only [beq_iff_eq]
      intro e
      rw [List.map_append, List.nodup_append] at hn
      exact hn.2.2 o.name (List.mem_map_of_mem ho) f.name (by simp) e
    simp only [fieldsErr, h1, h2]
    simp
    exact ih _ (fun x hx => h x (by simp [hx])) (by simpa using hn)
theorem kindsErr_zero : ∀ (ks pre : List Kind), (∀ k ∈ ks, oneErr k = 0) → ((pre ++ ks).map (·.name)).Nodup → kindsErr pre ks = 0 := by
  intro fs
  induction fs with
  | nil => intro pre _ _; rfl
  | cons f fs ih =>
    intro pre h hn
    have h1 := h f (by simp)
    have h2 : pre.any (fun o => o.name == f.name) = false := by
      rw [List.any_eq_false]
      intro o ho
      simp only [beq_iff_eq]
      intro e
      rw [List.map_append, List.nodup_append] at hn
      exact hn.2.2 o.name (List.mem_map_of_mem ho) f.name (by simp) e
    simp only [kindsErr, h1, h2]
    simp
    exact ih _ (fun x hx => h x (by simp [hx])) (by simpa using hn)
theorem kindsErr_dup : ∀ (ks pre : List Kind) (x : Kind), (∀ k ∈ ks, oneErr k = 0) → oneErr x = 0 → ((pre ++ ks).map (·.name)).Nodup → x.name ∈ (pre ++ ks).map (·.name) → kindsErr pre (ks ++ [x]) = 5 := by
  intro fs
  induction fs with
  | nil =>
    intro pre x _ hx hn hm
    have h2 : pre.any (fun o => o.name == x.name) = true := by
      rw [List.append_nil] at hm
      obtain ⟨o, ho, e⟩ := List.mem_map.1 hm
      exact List.any_eq_true.2 ⟨o, ho, by simp [e]⟩
    simp only [List.nil_append, kindsErr, hx, h2]
    simp
  | cons f fs ih =>
    intro pre x h hx hn hm
    have h1 := h f (by simp)
    have h2 : pre.any (fun o => o.name == f.name) = false := by
      rw [List.any_eq_false]
      intro o ho
      simp only [beq_iff_eq]
      intro e
      rw [List.map_append, List.nodup_append] at hn
      exact hn.2.2 o.name (List.mem_map_of_mem ho) f.name (by simp) e
    simp only [List.cons_append, kindsErr, h1, h2]
    simp
    exact ih _ x (fun x hx => h x (by simp [hx])) hx (by simpa using hn) (by simpa using hm)

theorem fieldNames_nodup {c : Nat} (h : c ≤ 3) : ((List.range' 0 c).map fieldName).Nodup := by
  have : c = 0 ∨ c = 1 ∨ c = 2 ∨ c = 3 := by omega
  rcases this with rfl | rfl | rfl | rfl <;> decide
theorem kindNames_nodup {c : Nat} (h : c ≤ 4) : ((List.range' 0 c).map kindName).Nodup := by
  have : c = 0 ∨ c = 1 ∨ c = 2 ∨ c = 3 ∨ c = 4 := by omega
  rcases this with rfl | rfl | rfl | rfl | rfl <;> decide
theorem genKind_ok (k : Nat) (l : List Int) : oneErr (genKind k l).1 = 0 := by
  have h1 := nextV_range l (n := 3) (by omega)
  have h2 : (1 + nextV l 3).toNat ≤ 3 := by omega
  have h3 := fieldsErr_nil0 (genFields 0 (1 + nextV l 3).toNat (nextL l 3)).1 [] (genFields_ok _ _ _) (by
    rw [List.nil_append, genFields_names]
    exact fieldNames_nodup h2)
  have h4 := genFields_len 0 (1 + nextV l 3).toNat (nextL l 3)
  unfold oneErr genKind
  simp only [kindName_ok, h3, h4, if_true]
  rw [if_neg (by omega)]
theorem genKindsFrom_ok (i c : Nat) (l : List Int) : ∀ f ∈ (genKindsFrom i c l).1, oneErr f = 0 := by
  induction c generalizing i l with
  | zero => intro f h; simp [genKindsFrom] at h
  | succ c ih =>
    intro f h
    simp only [genKindsFrom, List.mem_cons] at h
    rcases h with rfl | h
    · exact genKind_ok i l
    · exact ih _ _ f h
theorem genKinds_len (l : List Int) : 1 ≤ (genKinds l).1.length ∧ (genKinds l).1.length ≤ 4 := by
  have h := nextV_range l (n := 4) (by omega)
  unfold genKinds
  rw [genKindsFrom_len]
  omega
theorem genKinds_nodup (l : List Int) : ((genKinds l).1.map (·.name)).Nodup := by
  have h := nextV_range l (n := 4) (by omega)
  unfold genKinds
  rw [genKindsFrom_names]
  exact kindNames_nodup (by omega)
theorem genKinds_ok (l : List Int) : ∀ k ∈ (genKinds l).1, oneErr k = 0 := genKindsFrom_ok _ _ _
theorem genKinds_check (l : List Int) : checkErr (genKinds l).1 = 0 := by
  unfold checkErr
  have := genKinds_len l
  rw [if_neg (by omega)]
  exact kindsErr_zero _ [] (genKinds_ok l) (genKinds_nodup l)
theorem genKinds_twice (l : List Int) {i : Nat} (hi : i < (genKinds l).1.length) : checkErr ((genKinds l).1 ++ [(genKinds l).1[i]]) = 5 := by
  unfold checkErr
  have := genKinds_len l
  rw [if_neg (by simp; omega)]
  exact kindsErr_dup _ [] _ (genKinds_ok l) (genKinds_ok l _ (List.getElem_mem hi)) (genKinds_nodup l) (List.mem_map_of_mem (List.getElem_mem hi))
theorem find_nodup {ks : List Kind} (h : (ks.map (·.name)).Nodup) {i : Nat} (hi : i < ks.length) : findKind ks ks[i].name = i := by
  refine findKind_some hi rfl fun j hj e => ?_
  have h2 := (List.pairwise_iff_getElem.1 h) j i (by simp; omega) (by simpa using hi) hj
  exact h2 (by simpa using e)
end Go.Proofs.Ytfkppbkipbbmaaa

namespace Go.Proofs.Ytfkppbkipbbmaaa
set_option linter.unusedVariables false
theorem near_low {f : Field} (h : fieldErr f = 0) (v : Int) : f.low ≤ nearOf f v ∧ nearOf f v ≤ highOf f := by
  have := highOf_bd h
  unfold nearOf
  rw [if_pos h]
  omega
theorem near_in {f : Field} (h : fieldErr f = 0) {v : Int} (h1 : f.low ≤ v) (h2 : v ≤ highOf f) : nearOf f v = v := by
  unfold nearOf
  rw [if_pos h]
  omega
theorem near_near {f : Field} (h : fieldErr f = 0) (v : Int) : nearOf f (nearOf f v) = nearOf f v := near_in h (near_low h v).1 (near_low h v).2
theorem near_fits {fs : List Field} (h : ∀ f ∈ fs, fieldErr f = 0) (vals : List Int) : List.zipWith nearOf fs (List.zipWith nearOf fs vals) = List.zipWith nearOf fs vals := by
  induction fs generalizing vals with
  | nil => rfl
  | cons f fs ih =>
    cases vals with
    | nil => rfl
    | cons v vals => simp [near_near (h f (by simp)), ih (fun x hx => h x (by simp [hx]))]
theorem fitOf_ok {k : Kind} (h : oneErr k = 0) {vals : List Int} (hl : vals.length = k.fields.length) : fitOf k vals = (List.zipWith nearOf k.fields vals, 0) := by
  unfold fitOf
  rw [if_neg (by simp [h]), if_neg (by simp [hl])]
theorem genKind_fields (k : Nat) (l : List Int) : (∀ f ∈ (genKind k l).1.fields, fieldErr f = 0) ∧ (genKind k l).1.fields.length ≤ 3 := by
  have h1 := nextV_range l (n := 3) (by omega)
  refine ⟨genFields_ok _ _ _, ?_⟩
  show (genFields _ _ _).1.length ≤ 3
  rw [genFields_len]
  omega
theorem genKindsFrom_fields (i c : Nat) (l : List Int) : ∀ k ∈ (genKindsFrom i c l).1, (∀ f ∈ k.fields, fieldErr f = 0) ∧ k.fields.length ≤ 3 := by
  induction c generalizing i l with
  | zero => intro f h; simp [genKindsFrom] at h
  | succ c ih =>
    intro f h
    simp only [genKindsFrom, List.mem_cons] at h
    rcases h with rfl | h
    · exact genKind_fields i l
    · exact ih _ _ f h
theorem genKinds_fields (l : List Int) : ∀ k ∈ (genKinds l).1, (∀ f ∈ k.fields, fieldErr f = 0) ∧ k.fields.length ≤ 3 := genKindsFrom_fields _ _ _
end Go.Proofs.Ytfkppbkipbbmaaa

namespace Go.Proofs.Ytfkppbkipbbmaaa
set_option linter.unusedSimpArgs false
set_option linter.unusedVariables false
/-- The values for the first i fields. -/
def vAt (fs : List Field) (l : List Int) : Nat → List Int × List Int
  | 0 => ([], l)
  | i + 1 => match fs[i]? with
    | some f => ((vAt fs l i).1 ++ [f.low + nextV (vAt fs l i).2 (2 ^ f.bits.toNat)], nextL (vAt fs l i).2 (2 ^ f.bits.toNat))
    | none => vAt fs l i
/-- The components of the first i kinds. -/
def cAt (ks : List Kind) (l : List Int) : Nat → List Comp × List Int
  | 0 => ([], l)
  | i + 1 => match ks[i]? with
    | some k => if nextV (cAt ks l i).2 3 = 2 then ((cAt ks l i).1, nextL (cAt ks l i).2 3)
      else ((cAt ks l i).1 ++ [⟨i, (vAt k.fields (nextL (cAt ks l i).2 3) k.fields.length).1⟩], (vAt k.fields (nextL (cAt ks l i).2 3) k.fields.length).2)
    | none => cAt ks l i
def genComps (ks : List Kind) (l : List Int) : List Comp × List Int := cAt ks l ks.length
/-- The generations and items of the first i slots. -/
def wAt (ks : List Kind) (l : List Int) : Nat → List Int × List Item × List Int
  | 0 => ([], [], l)
  | i + 1 =>
    if nextV (nextL (wAt ks l i).2.2 3) 4 = 3 ∨ (wAt ks l i).2.1.length = 8 then ((wAt ks l i).1 ++ [nextV (wAt ks l i).2.2 3], (wAt ks l i).2.1, nextL (nextL (wAt ks l i).2.2 3) 4)
    else ((wAt ks l i).1 ++ [nextV (wAt ks l i).2.2 3], (wAt ks l i).2.1 ++ [⟨⟨i, nextV (wAt ks l i).2.2 3⟩, (genComps ks (nextL (nextL (wAt ks l i).2.2 3) 4)).1⟩], (genComps ks (nextL (nextL (wAt ks l i).2.2 3) 4)).2)
def genWorld (l : List Int) : Wd :=
  ⟨(genKinds l).1, (wAt (genKinds l).1 (nextL (genKinds l).2 12) (nextV (genKinds l).2 12).toNat).1, (wAt (genKinds l).1 (nextL (genKinds l).2 12) (nextV (genKinds l).2 12).toNat).2.1⟩
/-- Fields whose values are small numbers. -/
def FieldOK (f : Field) : Prop := 0 ≤ f.bits ∧ f.bits ≤ 32 ∧ -2147483648 ≤ f.low ∧ f.low ≤ 2147483648
def KindsOK (ks : List Kind) : Prop := ks.length ≤ 1099511627776 ∧ ∀ k ∈ ks, k.fields.length ≤ 1099511627776 ∧ ∀ f ∈ k.fields, FieldOK f
end Go.Proofs.Ytfkppbkipbbmaaa

namespace Go.Proofs.Ytfkppbkipbbmaaa
set_option linter.unusedVariables false
theorem vAt_len (fs : List Field) (l : List Int) (i : Nat) : (vAt fs l i).1.length ≤ i := by
  induction i with
  | zero => simp [vAt]
  | succ i ih => rw [vAt]; split <;> (try simp only [List.length_append, List.length_singleton]) <;> omega
theorem cAt_len (ks : List Kind) (l : List Int) (i : Nat) : (cAt ks l i).1.length ≤ i := by
  induction i with
  | zero => simp [cAt]
  | succ i ih => rw [cAt]; split <;> (try split) <;> (try simp only [List.length_append, List.length_singleton]) <;> omega
theorem vAt_next {fs : List Field} {l : List Int} {i : Nat} (h : i < fs.length) : vAt fs l (i + 1) = ((vAt fs l i).1 ++ [fs[i].low + nextV (vAt fs l i).2 (2 ^ fs[i].bits.toNat)], nextL (vAt fs l i).2 (2 ^ fs[i].bits.toNat)) := by
  rw [vAt, List.getElem?_eq_getElem h]
theorem cAt_no {ks : List Kind} {l : List Int} {i : Nat} (h : i < ks.length) (h2 : nextV (cAt ks l i).2 3 = 2) : cAt ks l (i + 1) = ((cAt ks l i).1, nextL (cAt ks l i).2 3) := by
  rw [cAt, List.getElem?_eq_getElem h]; simp only; rw [if_pos h2]
theorem cAt_yes {ks : List Kind} {l : List Int} {i : Nat} (h : i < ks.length) (h2 : nextV (cAt ks l i).2 3 ≠ 2) : cAt ks l (i + 1) = ((cAt ks l i).1 ++ [⟨i, (vAt ks[i].fields (nextL (cAt ks l i).2 3) ks[i].fields.length).1⟩], (vAt ks[i].fields (nextL (cAt ks l i).2 3) ks[i].fields.length).2) := by
  rw [cAt, List.getElem?_eq_getElem h]; simp only; rw [if_neg h2]
theorem pow_small {b : Nat} (h : b ≤ 32) : (1 : Int) ≤ 2 ^ b ∧ (2 : Int) ^ b ≤ 4294967296 := by
  have h1 : (2 : Nat) ^ b ≤ 2 ^ 32 := Nat.pow_le_pow_right (by decide) h
  have h2 : 0 < (2 : Nat) ^ b := Nat.pow_pos (by decide)
  have h3 : ((2 : Int) ^ b) = (((2 : Nat) ^ b : Nat) : Int) := by simp
  rw [h3]
  have : (2 : Nat) ^ 32 = 4294967296 := by decide
  omega
theorem comps_po (G : Nat) (ks : List Kind) (l : List Int) (hk : KindsOK ks) : PO Try.prog 45 [kindsA false false ks, .ptr G 0 0] G (streamO l) (compsA true false (genComps ks l).1) (streamO (genComps ks l).2) := by
  refine Spec.of (nt := 50) (res := [.tmp 4]) Try.func45 rfl (by kernel_rfl) rfl rfl rfl fun Sf => ?_
  obtain ⟨hk0, hk1⟩ := hk
  (repeat refine WF ?_); refine AWP.region ?_; (repeat (first | refine WO ?_ | refine All.i fun X => ?_ | refine AllY.i fun Y => ?_)); refine AOps.nil ?_; (repeat refine WN ?_)
  (repeat refine WF ?_); refine AWP.region ?_; (repeat (first | refine WO ?_ | refine All.i fun X => ?_ | refine AllY.i fun Y => ?_)); refine AOps.nil ?_; (repeat refine WN ?_)
  (repeat refine WF ?_); refine AWP.region ?_; (repeat (first | refine WO ?_ | refine All.i fun X => ?_ | refine AllY.i fun Y => ?_)); refine AOps.nil ?_; (repeat refine WN ?_)
  (repeat first | refine AOps.nil ?_ | refine WF ?_)
  refine AWP.adopt (d := 5) 141 2 rfl fun K => ?_
  refine AWP.lp5 (fun (i K : Nat) (M : List AV) (n : Nat) (q : List Int) => ⟨[(1, .ptr G 0 0), (5, .sl K 0 n), (11, kindsA false false ks), (12, iA (ks.map (kindA false)).length), (13, iA i)], (K, .row 141 2 M) :: (G, streamO q) :: Sf⟩) (fun i _ M n q => i ≤ ks.length ∧ M = (cAt ks l i).1.map (compA false) ∧ n = M.length ∧ q = (cAt ks l i).2) (fun i _ _ _ _ => ks.length - i) 0 K [] 0 l ⟨Nat.zero_le _, rfl, rfl, rfl⟩ ?_
  rintro i K M n q ⟨hi, hM, hn, hq⟩
  (repeat (first | refine WK ?_ | refine All.i fun X => ?_ | refine AllY.i fun Y => ?_))
  refine AWP.cond rfl (fun hc => ?_) (fun hc => ?_)
  · have h : i < ks.length := by simpa using hc
    obtain ⟨hf0, hf1⟩ := hk1 _ (List.getElem_mem h)
    have h3 := nextV_range q (n := 3) (by decide)
    have hn1 : n + 1 ≤ 1099511627776 := by have := cAt_len ks l i; rw [hn, hM, List.length_map]; omega
    (repeat (first | (refine AOps.gN ?_; first | (refine AOps.g_callf ?_; first | refine AOps.o2 (h := (next_po G _ _ (by decide))) (k := ?_))) | refine WK ?_ | refine All.i fun X => ?_ | refine AllY.i fun Y => ?_))
    refine AWP.cond rfl (fun he => ?_) (fun he => ?_)
    · have he : nextV q 3 = 2 := by simpa using he
      (repeat (first | refine WK ?_ | refine All.i fun X => ?_ | refine AllY.i fun Y => ?_))
      refine lp_next5 (i + 1) K M n _ ⟨h, ?_, hn, ?_⟩
      · rw [cAt_no h (hq ▸ he), hM]
      · rw [cAt_no h (hq ▸ he), hq]
    · have he : nextV q 3 ≠ 2 := by simpa using he
      (repeat refine WF ?_); refine AWP.region ?_; (repeat (first | refine WO ?_ | refine All.i fun Y => ?_ | refine AllY.i fun Y => ?_)); refine AOps.nil ?_; (repeat refine WN ?_)
      refine AWP.adoptIn (Y := Y) 3 1 .here (fun F => .cons (.agg (.cons .same (.cons (.base .nil) .nil))) .nil) fun F => ?_
      (repeat (first | refine WK ?_ | refine All.i fun X => ?_ | refine AllY.i fun Y => ?_))
      obtain ⟨fs, hfs⟩ : ∃ fs, ks[i].fields = fs := ⟨_, rfl⟩
      obtain ⟨q1, hq1⟩ : ∃ q1, nextL q 3 = q1 := ⟨_, rfl⟩
      rw [hq1, hfs]
      have hck : cAt ks l (i + 1) = ((cAt ks l i).1 ++ [⟨i, (vAt fs q1 fs.length).1⟩], (vAt fs q1 fs.length).2) := by rw [cAt_yes h (hq ▸ he), ← hq, hq1, hfs]
      rw [hfs] at hf0 hf1
      refine AWP.lp5 (fun (j F : Nat) (L : List AV) (m : Nat) (r : List Int) => ⟨[(1, .ptr G 0 0), (5, .sl K 0 n), (6, iA i), (8, .ptr Y 0 0), (11, kindsA false false ks), (12, iA (ks.map (kindA false)).length), (13, iA i), (24, fieldsA false fs), (25, iA (fs.map fieldA).length), (26, iA j)], (F, .row 3 1 L) :: (Y, .row 141 2 [.agg [iA i, .sl F 0 m]]) :: (K, .row 141 2 M) :: (G, streamO r) :: Sf⟩) (fun j _ L m r => j ≤ fs.length ∧ L = (vAt fs q1 j).1.map iA ∧ m = L.length ∧ r = (vAt fs q1 j).2) (fun j _ _ _ _ => fs.length - j) 0 F [] 0 q1 ⟨Nat.zero_le _, rfl, rfl, rfl⟩ ?_
      rintro j F L m r ⟨hj, hL, hm, hr⟩
      (repeat (first | refine WK ?_ | refine All.i fun X => ?_ | refine AllY.i fun Y => ?_))
      refine AWP.cond rfl (fun hd => ?_) (fun hd => ?_)
      · have hj' : j < fs.length := by simpa using hd
        obtain ⟨hb0, hb1, hl0, hl1⟩ := hf1 _ (List.getElem_mem hj')
        obtain ⟨b, hb⟩ : ∃ b : Nat, fs[j].bits = b := ⟨fs[j].bits.toNat, by omega⟩
        have hp := pow_small (b := b) (by omega)
        have hw : IntKind.i64.wrap (1 * 2 ^ b) = 2 ^ b := by rw [Int.one_mul]; exact wrap_id (by omega) (by omega)
        have hv := nextV_range r (n := IntKind.i64.wrap (1 * 2 ^ b)) (by omega)
        have hm1 : m + 1 ≤ 1099511627776 := by have := vAt_len fs q1 j; rw [hm, hL, List.length_map]; omega
        (repeat (first | refine WK ?_ | refine All.i fun Z => ?_ | refine AllY.i fun Y => ?_))
        refine AWP.rs fun X7 => ?_
        (repeat refine WF ?_); refine AWP.region_run (by kernel_rfl) (by kernel_rfl) ?_; (repeat (first | (refine RGo.gN ?_; first | (refine RGo.g_callf ?_; first | refine RGo.o2 (h := (next_po G _ _ (by rw [hw]; omega))) (k := ?_)) | refine RGo.p (W.shl rfl rfl hb (by show b ≤ 64; omega)) rfl ?_ | refine RGo.p (W.add rfl rfl (by omega)) rfl ?_) | (refine RGo.gQ ?_; first | (refine RGo.g_callf ?_; first | refine RGo.o2 (h := (next_po G _ _ (by rw [hw]; omega))) (k := ?_)) | refine RGo.p (W.shl rfl rfl hb (by show b ≤ 64; omega)) rfl ?_ | refine RGo.p (W.add rfl rfl (by omega)) rfl ?_) | refine RK ?_ | refine RGo.nil (by kernel_rfl) ?_))
        (repeat (first | refine WK ?_ | refine All.i fun X => ?_ | refine AllY.i fun Y => ?_))
        have hva : vAt fs q1 (j + 1) = ((vAt fs q1 j).1 ++ [fs[j].low + nextV r (IntKind.i64.wrap (1 * 2 ^ b))], nextL r (IntKind.i64.wrap (1 * 2 ^ b))) := by rw [vAt_next hj', ← hr, hw, hb]; rfl
        refine lp_next5 (j + 1) X7 _ _ _ ⟨hj', ?_, ?_, ?_⟩
        · rw [hva, hL, List.map_append]; rfl
        · rw [List.length_append, hm]
        · rw [hva]
      · have hj' : j = fs.length := by rw [decide_eq_false_iff_not, List.length_map] at hd; omega
        subst hj'
        (repeat first | refine AOps.nil ?_ | refine WF ?_)
        refine AWP.iceIn (X := F) (Y := Y) .here (.next .here) rfl (.cons (.agg (.cons .same (.cons (.base (.sl (by omega))) .nil))) .nil) ?_
        have hF : AV.frzs ((L.drop 0).take m) = (vAt fs q1 fs.length).1.map iA := by
          rw [List.drop_zero, List.take_of_length_le (by omega), hL]
          exact Frzs.h
        rw [hF]
        (repeat (first | (refine AOps.gN ?_; first | (refine AOps.g_lit ?_; refine AOps.goL (compA false ⟨i, (vAt fs q1 fs.length).1⟩) ?_)) | refine WK ?_ | refine All.i fun X => ?_ | refine AllY.i fun Y => ?_))
        refine lp_next5 (i + 1) Y _ _ _ ⟨h, ?_, ?_, ?_⟩
        · rw [hck, hM, List.map_append]; rfl
        · rw [List.length_append, hn]
        · rw [hck, hr]
  · have h : i = ks.length := by rw [decide_eq_false_iff_not, List.length_map] at hc; omega
    subst h
    (repeat (first | refine WK ?_ | refine All.i fun X => ?_ | refine AllY.i fun Y => ?_))
    (refine AWP.ret ?_; (repeat (first | refine inB_r ?_ | refine andThen_r ?_)); refine retQ_r ?_)
    subst hM hq
    exact ⟨[.sl K 0 n], [.lst true 141 2 ((cAt ks l ks.length).1.map (compA false))], _, [(G, streamO (cAt ks l ks.length).2)], .cons (.tmp rfl) rfl .nil, .cons (.cell (.sl (p := 0) .here hn)) .nil, by exact Sub.f, rfl, rfl⟩
theorem wAt_len1 (ks : List Kind) (l : List Int) (i : Nat) : (wAt ks l i).1.length = i := by
  induction i with
  | zero => rfl
  | succ i ih => rw [wAt]; split <;> simp [ih]
theorem wAt_len2 (ks : List Kind) (l : List Int) (i : Nat) : (wAt ks l i).2.1.length ≤ i := by
  induction i with
  | zero => simp [wAt]
  | succ i ih => rw [wAt]; split <;> (try simp only [List.length_append, List.length_singleton]) <;> omega
/-- A made world: its lists of generations and items are its own. -/
def wdO (w : Wd) : AV := .agg [kindsA false false w.kinds, intsA true w.gens, itemsA true false w.items]
instance {w : Wd} : Frz (wdO w) (wdA false w) := ⟨by unfold wdO wdA; exact Frz.h⟩
theorem genField_rng (i : Nat) (l : List Int) : FieldOK (genField i l).1 := by
  have h9 := nextV_range l (n := 9) (by decide)
  have h40 := nextV_range (nextL l 9) (n := 40) (by decide)
  unfold genField
  split <;> refine ⟨?_, ?_, ?_, ?_⟩ <;> simp <;> omega
theorem fAt_rng (i : Nat) (l : List Int) : ∀ f ∈ (fAt i l).1, FieldOK f := by
  induction i with
  | zero => intro f hf; cases hf
  | succ i ih =>
    intro f hf
    rcases List.mem_append.1 hf with hf | hf
    · exact ih f hf
    · rw [List.mem_singleton.1 hf]; exact genField_rng _ _
theorem genKind_rng (k : Nat) (l : List Int) : (genKind k l).1.fields.length ≤ 3 ∧ ∀ f ∈ (genKind k l).1.fields, FieldOK f := by
  have h := nextV_range l (n := 3) (by decide)
  show (genFields 0 (1 + nextV l 3).toNat (nextL l 3)).1.length ≤ 3 ∧ ∀ f ∈ (genFields 0 (1 + nextV l 3).toNat (nextL l 3)).1, FieldOK f
  rw [genFields_at]
  exact ⟨by rw [fAt_len]; omega, fAt_rng _ _⟩
theorem kAt_rng (i : Nat) (l : List Int) : ∀ k ∈ (kAt i l).1, k.fields.length ≤ 3 ∧ ∀ f ∈ k.fields, FieldOK f := by
  induction i with
  | zero => intro f hf; cases hf
  | succ i ih =>
    intro f hf
    rcases List.mem_append.1 hf with hf | hf
    · exact ih f hf
    · rw [List.mem_singleton.1 hf]; exact genKind_rng _ _
theorem genKinds_cnt (l : List Int) : (genKinds l).1.length = (1 + nextV l 4).toNat := by rw [genKinds_at, kAt_len]
theorem genKinds_rng (l : List Int) : KindsOK (genKinds l).1 := by
  have h := nextV_range l (n := 4) (by decide)
  refine ⟨by rw [genKinds_cnt]; omega, ?_⟩
  rw [genKinds_at]
  intro k hk
  have := kAt_rng _ _ k hk
  exact ⟨by omega, this.2⟩
theorem world_ps (l : List Int) : PS Try.prog 11 [intsA false l] (wdO (genWorld l)) := by
  refine Spec.of (nt := 52) (res := [.cell 2 26]) Try.func11 rfl (by kernel_rfl) rfl rfl rfl fun Sf => ?_
  have hko := genKinds_rng l
  obtain ⟨ks, hks⟩ : ∃ ks, (genKinds l).1 = ks := ⟨_, rfl⟩
  obtain ⟨l1, hl1⟩ : ∃ l1, (genKinds l).2 = l1 := ⟨_, rfl⟩
  have h12 := nextV_range l1 (n := 12) (by decide)
  obtain ⟨c, hc⟩ : ∃ c : Nat, nextV l1 12 = c := ⟨(nextV l1 12).toNat, by omega⟩
  obtain ⟨l2, hl2⟩ : ∃ l2, nextL l1 12 = l2 := ⟨_, rfl⟩
  have hg : genWorld l = ⟨ks, (wAt ks l2 c).1, (wAt ks l2 c).2.1⟩ := by unfold genWorld; rw [hks, hl1, hl2, hc]; rfl
  have hkp := fun G => kinds_po G l
  rw [hks, hl1] at hkp
  rw [hks] at hko
  rw [hg]
  clear hg hks hl1
  (repeat refine WF ?_); refine AWP.region ?_; (repeat (first | refine WO ?_ | refine All.i fun R => ?_ | refine AllY.i fun Y => ?_)); refine AOps.nil ?_; (repeat refine WN ?_)
  (repeat refine WF ?_); refine AWP.region ?_; (repeat (first | refine WO ?_ | refine All.i fun G => ?_ | refine AllY.i fun Y => ?_)); refine AOps.nil ?_; (repeat refine WN ?_)
  (repeat refine WF ?_); refine AWP.region ?_; (repeat (first | (refine AOps.gN ?_; first | (refine AOps.g_callf ?_; first | refine AOps.o1 (h := (hkp G)) (k := ?_))) | refine WO ?_ | refine All.i fun V => ?_ | refine AllY.i fun Y => ?_)); refine AOps.nil ?_; (repeat refine WN ?_)
  (repeat refine WF ?_); refine AWP.region ?_; (repeat (first | (refine AOps.gN ?_; first | (refine AOps.g_callf ?_; first | refine AOps.o2 (h := (next_po G _ _ (by decide))) (k := ?_))) | refine WO ?_ | refine All.i fun X => ?_ | refine AllY.i fun Y => ?_)); refine AOps.nil ?_; (repeat refine WN ?_)
  rw [hl2, hc]
  refine AWP.adoptIn (Y := V) 36 3 (by exact At.f) (fun F => .cons (.agg (.cons .same (.cons .same (.cons (.base .nil) .nil)))) .nil) fun B => ?_
  refine AWP.adoptIn (Y := V) 3 1 (by exact At.f) (fun F => .cons (.agg (.cons .same (.cons (.base .nil) (.cons .same .nil)))) .nil) fun A => ?_
  (repeat first | refine AOps.nil ?_ | refine WF ?_)
  refine AWP.lp7 (fun (i A B : Nat) (L M : List AV) (n : Nat) (q : List Int) => ⟨[(2, .ptr R 0 0), (3, .ptr G 0 0), (4, .ptr V 0 0), (13, iA c), (14, iA i)], (A, .row 3 1 L) :: (B, .row 36 3 M) :: (V, .row 26 3 [.agg [kindsA false false ks, .sl A 0 i, .sl B 0 n]]) :: (G, streamO q) :: (R, .row 26 3 [.agg [.prim (.slice none 0 0), .prim (.slice none 0 0), .prim (.slice none 0 0)]]) :: Sf⟩) (fun i _ _ L M n q => i ≤ c ∧ L = (wAt ks l2 i).1.map iA ∧ M = (wAt ks l2 i).2.1.map (itemA false) ∧ n = M.length ∧ q = (wAt ks l2 i).2.2) (fun i _ _ _ _ _ _ => c - i) 0 A B [] [] 0 l2 ⟨Nat.zero_le _, rfl, rfl, rfl, rfl⟩ ?_
  rintro i A B L M n q ⟨hi, hL, hM, hn, hq⟩
  have hA := wAt_len1 ks l2 i
  have hB := wAt_len2 ks l2 i
  (repeat (first | refine WK ?_ | refine All.i fun X => ?_ | refine AllY.i fun Y => ?_))
  refine AWP.cond rfl (fun hd => ?_) (fun hd => ?_)
  · have h : i < c := by rw [decide_eq_true_eq] at hd; omega
    have h3 := nextV_range q (n := 3) (by decide)
    have h4 := nextV_range (nextL q 3) (n := 4) (by decide)
    (repeat refine WF ?_); refine AWP.region ?_; (repeat (first | refine WO ?_ | refine All.i fun X => ?_ | refine AllY.i fun Y => ?_)); refine AOps.nil ?_; (repeat refine WN ?_)
    refine AWP.rs fun X7 => ?_
    (repeat refine WF ?_); refine AWP.region_run (by kernel_rfl) (by kernel_rfl) ?_; (repeat (first | (refine RGo.gN ?_; first | (refine RGo.g_callf ?_; first | refine RGo.o2 (h := (next_po G _ _ (by decide))) (k := ?_))) | (refine RGo.gQ ?_; first | (refine RGo.g_callf ?_; first | refine RGo.o2 (h := (next_po G _ _ (by decide))) (k := ?_))) | refine RK ?_ | refine RGo.nil (by kernel_rfl) ?_))
    (repeat (first | (refine AOps.gN ?_; first | (refine AOps.g_callf ?_; first | refine AOps.o2 (h := (next_po G _ _ (by decide))) (k := ?_))) | refine WK ?_ | refine All.i fun X => ?_ | refine AllY.i fun Y => ?_))
    have hLl : L.length = i := by rw [hL, List.length_map, hA]
    obtain ⟨IT, hIT⟩ : ∃ IT, (wAt ks l2 i).2.1 = IT := ⟨_, rfl⟩
    rw [hIT] at hM hB
    have hnl : n = IT.length := by rw [hn, hM, List.length_map]
    have hat : (L ++ [.prim (.int .i64 (nextV q 3))])[i]? = some (.prim (.int .i64 (nextV q 3))) := by rw [← hLl]; simp
    refine AWP.cond rfl (fun he => ?_) (fun he => ?_)
    · have he : nextV (nextL q 3) 4 = 3 ∨ n = 8 := by rw [Bool.or_eq_true, decide_eq_true_eq, decide_eq_true_eq] at he; omega
      have hw : wAt ks l2 (i + 1) = ((wAt ks l2 i).1 ++ [nextV q 3], IT, nextL (nextL q 3) 4) := by rw [wAt, ← hq, hIT, ← hnl, if_pos he]
      (repeat (first | refine WK ?_ | refine All.i fun X => ?_ | refine AllY.i fun Y => ?_))
      refine lp_next7 (i + 1) X7 B _ M n _ ⟨h, ?_, ?_, hn, ?_⟩
      · rw [hw, hL, List.map_append]; rfl
      · rw [hw, hM]
      · rw [hw]
    · have he : ¬ (nextV (nextL q 3) 4 = 3 ∨ n = 8) := by rw [Bool.or_eq_false_iff, decide_eq_false_iff_not, decide_eq_false_iff_not] at he; omega
      have hw : wAt ks l2 (i + 1) = ((wAt ks l2 i).1 ++ [nextV q 3], IT ++ [⟨⟨i, nextV q 3⟩, (genComps ks (nextL (nextL q 3) 4)).1⟩], (genComps ks (nextL (nextL q 3) 4)).2) := by rw [wAt, ← hq, hIT, ← hnl, if_neg he]
      have hin : i < i + [AV.prim (.int .i64 (nextV q 3))].length := Nat.lt_succ_self i
      refine AWP.rs fun X8 => ?_
      (repeat refine WF ?_); refine AWP.region_run (by kernel_rfl) (by kernel_rfl) ?_; (repeat (first | (refine RGo.gN ?_; first | (refine RGo.g_callf ?_; first | refine RGo.o2 (h := (comps_po G ks _ hko)) (k := ?_)) | (refine RGo.g_lit ?_; refine RGo.goL (itemA false ⟨⟨i, nextV q 3⟩, (genComps ks (nextL (nextL q 3) 4)).1⟩) ?_)) | (refine RGo.gQ ?_; first | (refine RGo.g_callf ?_; first | refine RGo.o2 (h := (comps_po G ks _ hko)) (k := ?_)) | (refine RGo.g_lit ?_; refine RGo.goL (itemA false ⟨⟨i, nextV q 3⟩, (genComps ks (nextL (nextL q 3) 4)).1⟩) ?_)) | refine RK ?_ | refine RGo.nil (by kernel_rfl) ?_))
      (repeat (first | refine WK ?_ | refine All.i fun X => ?_ | refine AllY.i fun Y => ?_))
      refine lp_next7 (i + 1) X7 X8 _ _ _ _ ⟨h, ?_, ?_, ?_, ?_⟩
      · rw [hw, hL, List.map_append]; rfl
      · rw [hw, hM, List.map_append]; rfl
      · rw [List.length_append, hn]
      · rw [hw]
  · have h : i = c := by rw [decide_eq_false_iff_not] at hd; omega
    subst h
    (repeat (first | refine WK ?_ | refine All.i fun X => ?_ | refine AllY.i fun Y => ?_))
    (refine AWP.ret ?_; (repeat (first | refine inB_r ?_ | refine andThen_r ?_)); refine retQ_r ?_)
    subst hL hM
    have hA : i = ((wAt ks l2 i).1.map iA).length := by rw [List.length_map, hA]
    exact ⟨[.agg [kindsA false false ks, .sl A 0 i, .sl B 0 n]], [wdO ⟨ks, (wAt ks l2 i).1, (wAt ks l2 i).2.1⟩], _, [], .cons (.cell (p := 4) rfl (by exact At.f) TAg.h TSize.h rfl rfl) rfl .nil, .cons (.agg (.cons .same (.cons (.sl (p := 0) .here hA) (.cons (.sl (p := 0) .here hn) .nil)))) .nil, by exact Sub.f, rfl, rfl⟩
end Go.Proofs.Ytfkppbkipbbmaaa

namespace Go.Proofs.Ytfkppbkipbbmaaa
set_option linter.unusedVariables false
theorem cAt_mem {ks : List Kind} {l : List Int} {i : Nat} {c : Comp} (h : c ∈ (cAt ks l i).1) : ∃ (j : Nat) (hj : j < ks.length) (q : List Int), j < i ∧ c = ⟨j, (vAt ks[j].fields q ks[j].fields.length).1⟩ := by
  induction i with
  | zero => cases h
  | succ i ih =>
    by_cases hi : i < ks.length
    · by_cases h2 : nextV (cAt ks l i).2 3 = 2
      · rw [cAt_no hi h2] at h
        obtain ⟨j, hj, q, h3, h4⟩ := ih h
        exact ⟨j, hj, q, by omega, h4⟩
      · rw [cAt_yes hi h2] at h
        rcases List.mem_append.1 h with h | h
        · obtain ⟨j, hj, q, h3, h4⟩ := ih h
          exact ⟨j, hj, q, by omega, h4⟩
        · rw [List.mem_singleton.1 h]
          exact ⟨i, hi, _, by omega, rfl⟩
    · rw [cAt, List.getElem?_eq_none (by omega)] at h
      obtain ⟨j, hj, q, h3, h4⟩ := ih h
      exact ⟨j, hj, q, by omega, h4⟩
theorem wAt_mem {ks : List Kind} {l : List Int} {i : Nat} {it : Item} (h : it ∈ (wAt ks l i).2.1) : ∃ (j : Nat) (q : List Int), j < i ∧ (wAt ks l i).1[j]? = some it.ent.gen ∧ it.ent.n = j ∧ it.comps = (genComps ks q).1 := by
  induction i with
  | zero => cases h
  | succ i ih =>
    have hl := wAt_len1 ks l i
    have hup : ∀ (x : Int) (g : Int) (j : Nat), (wAt ks l i).1[j]? = some g → ((wAt ks l i).1 ++ [x])[j]? = some g := fun x g j hg => by
      rw [List.getElem?_append_left (List.getElem?_eq_some_iff.1 hg).1, hg]
    rw [wAt] at h ⊢
    split
    · rename_i hs
      rw [if_pos hs] at h
      obtain ⟨j, q, h1, h2, h3, h4⟩ := ih h
      exact ⟨j, q, by omega, hup _ _ _ h2, h3, h4⟩
    · rename_i hs
      rw [if_neg hs] at h
      rcases List.mem_append.1 h with h | h
      · obtain ⟨j, q, h1, h2, h3, h4⟩ := ih h
        exact ⟨j, q, by omega, hup _ _ _ h2, h3, h4⟩
      · rw [List.mem_singleton.1 h]
        exact ⟨i, _, by omega, by rw [List.getElem?_append_right (by omega), hl]; simp, rfl, rfl⟩
theorem genKinds_small (l : List Int) : (genKinds l).1.length ≤ 4 ∧ ∀ k ∈ (genKinds l).1, k.fields.length ≤ 3 := by
  have h := nextV_range l (n := 4) (by decide)
  refine ⟨by rw [genKinds_cnt]; omega, ?_⟩
  rw [genKinds_at]
  intro k hk
  exact (kAt_rng _ _ k hk).1
theorem genWorld_small (l : List Int) : (genWorld l).items.length ≤ 12 ∧ (genWorld l).gens.length ≤ 12 ∧ ∀ it ∈ (genWorld l).items, it.comps.length ≤ 4 ∧ ∀ c ∈ it.comps, c.vals.length ≤ 3 := by
  have h := nextV_range (genKinds l).2 (n := 12) (by decide)
  have h1 := wAt_len2 (genKinds l).1 (nextL (genKinds l).2 12) (nextV (genKinds l).2 12).toNat
  have h2 := wAt_len1 (genKinds l).1 (nextL (genKinds l).2 12) (nextV (genKinds l).2 12).toNat
  obtain ⟨h3, h4⟩ := genKinds_small l
  refine ⟨Nat.le_trans h1 (by omega), Nat.le_trans (Nat.le_of_eq h2) (by omega), fun it hit => ?_⟩
  obtain ⟨j, q, _, _, _, hc⟩ := wAt_mem hit
  rw [hc]
  refine ⟨Nat.le_trans (cAt_len _ _ _) h3, fun c hcm => ?_⟩
  obtain ⟨j, hj, q, _, rfl⟩ := cAt_mem hcm
  exact Nat.le_trans (vAt_len _ _ _) (h4 _ (List.getElem_mem hj))
end Go.Proofs.Ytfkppbkipbbmaaa

namespace Go.Proofs.Ytfkppbkipbbmaaa
set_option linter.unusedVariables false
theorem heldFrom_iff {ks : List Kind} : ∀ {l : List Comp} {last : Int}, -1 ≤ last → (heldFrom ks last l = true ↔ l.Pairwise (fun a b => a.kind < b.kind) ∧ ∀ c ∈ l, last < c.kind ∧ c.kind < ks.length ∧ ∃ k, ks[c.kind.toNat]? = some k ∧ holdsOf k c.vals = true)
  | [], _, _ => by simp [heldFrom]
  | c :: l, last, hl => by
    rw [heldFrom]
    constructor
    · intro h
      split at h
      · rename_i k hk
        simp only [Bool.and_eq_true, decide_eq_true_eq] at h
        obtain ⟨⟨⟨h1, h2⟩, h3⟩, h4⟩ := h
        obtain ⟨h5, h6⟩ := (heldFrom_iff (by omega)).1 h4
        refine ⟨List.pairwise_cons.2 ⟨fun d hd => (h6 d hd).1, h5⟩, fun d hd => ?_⟩
        rcases List.mem_cons.1 hd with rfl | hd
        · exact ⟨h1, h2, k, hk, h3⟩
        · obtain ⟨q1, q2⟩ := h6 d hd
          exact ⟨by omega, q2⟩
      · cases h
    · rintro ⟨h1, h2⟩
      obtain ⟨h3, h4⟩ := List.pairwise_cons.1 h1
      obtain ⟨h5, h6, k, hk, h7⟩ := h2 c (by simp)
      rw [hk]
      simp only [Bool.and_eq_true, decide_eq_true_eq]
      exact ⟨⟨⟨h5, h6⟩, h7⟩, (heldFrom_iff (by omega)).2 ⟨h4, fun d hd => ⟨h3 d hd, (h2 d (by simp [hd])).2⟩⟩⟩
theorem itemsFrom_iff {ks : List Kind} {gens : List Int} : ∀ {l : List Item} {last : Int}, -1 ≤ last → (itemsFrom ks gens last l = true ↔ l.Pairwise (fun a b => a.ent.n < b.ent.n) ∧ ∀ it ∈ l, last < it.ent.n ∧ it.ent.n < gens.length ∧ gens[it.ent.n.toNat]? = some it.ent.gen ∧ it.ent.gen ≠ 1073741824 ∧ heldOf ks it.comps = true)
  | [], _, _ => by simp [itemsFrom]
  | c :: l, last, hl => by
    rw [itemsFrom]
    constructor
    · intro h
      split at h
      · rename_i k hk
        simp only [Bool.and_eq_true, decide_eq_true_eq, Bool.not_eq_true', decide_eq_false_iff_not] at h
        obtain ⟨⟨⟨⟨⟨h1, h2⟩, h3⟩, h4⟩, h7⟩, h8⟩ := h
        obtain ⟨h5, h6⟩ := (itemsFrom_iff (by omega)).1 h8
        refine ⟨List.pairwise_cons.2 ⟨fun d hd => (h6 d hd).1, h5⟩, fun d hd => ?_⟩
        rcases List.mem_cons.1 hd with rfl | hd
        · exact ⟨h1, h2, by rw [hk, h3], h4, h7⟩
        · obtain ⟨q1, q2⟩ := h6 d hd
          exact ⟨by omega, q2⟩
      · cases h
    · rintro ⟨h1, h2⟩
      obtain ⟨h3, h4⟩ := List.pairwise_cons.1 h1
      obtain ⟨h5, h6, hk, h7, h8⟩ := h2 c (by simp)
      rw [hk]
      simp only [Bool.and_eq_true, decide_eq_true_eq, Bool.not_eq_true', decide_eq_false_iff_not]
      exact ⟨⟨⟨⟨⟨h5, h6⟩, trivial⟩, h7⟩, h8⟩, (itemsFrom_iff (by omega)).2 ⟨h4, fun d hd => ⟨h3 d hd, (h2 d (by simp [hd])).2⟩⟩⟩
/-- What a valid world is. -/
structure WdOK (w : Wd) : Prop where
  ks : checkErr w.kinds = 0
  gl : w.gens.length ≤ 256
  il : w.items.length ≤ w.gens.length
  gs : ∀ g ∈ w.gens, 0 ≤ g ∧ g ≤ 1073741824
  so : w.items.Pairwise fun a b => a.ent.n < b.ent.n
  it : ∀ it ∈ w.items, 0 ≤ it.ent.n ∧ it.ent.n < w.gens.length ∧ w.gens[it.ent.n.toNat]? = some it.ent.gen ∧ it.ent.gen ≠ 1073741824 ∧ heldOf w.kinds it.comps = true
theorem wdErr_iff (w : Wd) : wdErr w = 0 ↔ WdOK w := by
  have hg : gensOk w.gens = true ↔ ∀ g ∈ w.gens, 0 ≤ g ∧ g ≤ 1073741824 := by
    unfold gensOk
    rw [List.all_eq_true]
    simp only [Bool.and_eq_true, decide_eq_true_eq]
  have hi := itemsFrom_iff (ks := w.kinds) (gens := w.gens) (l := w.items) (last := -1) (by omega)
  unfold wdErr
  constructor
  · intro h
    split at h
    · exact absurd h ‹_›
    rename_i h1
    split at h
    · cases h
    rename_i h2
    split at h
    · cases h
    rename_i h3
    split at h
    · cases h
    rename_i h4
    obtain ⟨h5, h6⟩ := hi.1 (by simpa using h4)
    exact ⟨by simpa using h1, by omega, by omega, hg.1 (by simpa using h3), h5, fun it hit => by obtain ⟨a, b⟩ := h6 it hit; exact ⟨by omega, b⟩⟩
  · intro h
    rw [if_neg (by simp [h.ks]), if_neg (by have := h.gl; have := h.il; omega), if_neg (by rw [hg.2 h.gs]; simp), if_neg (by rw [hi.2 ⟨h.so, fun it hit => by obtain ⟨a, b⟩ := h.it it hit; exact ⟨by omega, b⟩⟩]; simp)]
theorem cAt_pair (ks : List Kind) (l : List Int) (i : Nat) : (cAt ks l i).1.Pairwise fun a b => a.kind < b.kind := by
  induction i with
  | zero => exact .nil
  | succ i ih =>
    by_cases hi : i < ks.length
    · by_cases h2 : nextV (cAt ks l i).2 3 = 2
      · rw [cAt_no hi h2]; exact ih
      · rw [cAt_yes hi h2]
        refine List.pairwise_append.2 ⟨ih, List.pairwise_singleton .., fun a ha b hb => ?_⟩
        rw [List.mem_singleton.1 hb]
        obtain ⟨j, hj, q, hji, rfl⟩ := cAt_mem ha
        show (j : Int) < i
        omega
    · rw [cAt, List.getElem?_eq_none (by omega)]; exact ih
theorem vAt_fit {fs : List Field} (hf : ∀ f ∈ fs, fieldErr f = 0) (hr : ∀ f ∈ fs, FieldOK f) (l : List Int) : ∀ i, i ≤ fs.length → List.zipWith nearOf (fs.take i) (vAt fs l i).1 = (vAt fs l i).1 ∧ (vAt fs l i).1.length = i
  | 0, _ => ⟨rfl, rfl⟩
  | i + 1, h => by
    obtain ⟨h1, h2⟩ := vAt_fit hf hr l i (by omega)
    rw [vAt_next (by omega)]
    have hm := List.getElem_mem (l := fs) (n := i) (by omega)
    obtain ⟨hb0, hb1, _, _⟩ := hr _ hm
    have hp := pow_small (b := fs[i].bits.toNat) (by omega)
    have hv := nextV_range (vAt fs l i).2 (n := 2 ^ fs[i].bits.toNat) (by omega)
    have hh : highOf fs[i] = fs[i].low + (2 ^ fs[i].bits.toNat - 1) := by unfold highOf; rw [if_pos (hf _ hm)]
    refine ⟨?_, by rw [List.length_append, h2]; rfl⟩
    rw [List.take_succ_eq_append_getElem (by omega), List.zipWith_append (by rw [h2, List.length_take]; omega), h1]
    simp only [List.zipWith_cons_cons, List.zipWith_nil_left]
    rw [near_in (hf _ hm) (by omega) (by rw [hh]; omega)]
theorem vAt_holds {k : Kind} (h1 : oneErr k = 0) (hf : ∀ f ∈ k.fields, fieldErr f = 0) (hr : ∀ f ∈ k.fields, FieldOK f) (l : List Int) : holdsOf k (vAt k.fields l k.fields.length).1 = true := by
  obtain ⟨h2, h3⟩ := vAt_fit hf hr l k.fields.length (Nat.le_refl _)
  rw [List.take_length] at h2
  unfold holdsOf
  rw [fitOf_ok h1 h3, h2]
  simp
/-- Kinds as they are made. -/
structure KsGood (ks : List Kind) : Prop where
  one : ∀ k ∈ ks, oneErr k = 0
  fld : ∀ k ∈ ks, ∀ f ∈ k.fields, fieldErr f = 0
  rng : ∀ k ∈ ks, ∀ f ∈ k.fields, FieldOK f
theorem genKinds_good (l : List Int) : KsGood (genKinds l).1 :=
  ⟨genKinds_ok l, fun k hk => (genKinds_fields l k hk).1, fun k hk => ((genKinds_rng l).2 k hk).2⟩
theorem genComps_held {ks : List Kind} (h : KsGood ks) (l : List Int) : heldOf ks (genComps ks l).1 = true := by
  unfold heldOf
  rw [heldFrom_iff (by omega)]
  refine ⟨cAt_pair _ _ _, fun c hc => ?_⟩
  obtain ⟨j, hj, q, _, rfl⟩ := cAt_mem hc
  have hm := List.getElem_mem hj
  exact ⟨by show (-1 : Int) < (j : Int); omega, by show (j : Int) < _; omega, ks[j], List.getElem?_eq_getElem hj, vAt_holds (h.one _ hm) (h.fld _ hm) (h.rng _ hm) q⟩
theorem wAt_pair (ks : List Kind) (l : List Int) (i : Nat) : (wAt ks l i).2.1.Pairwise fun a b => a.ent.n < b.ent.n := by
  induction i with
  | zero => exact .nil
  | succ i ih =>
    rw [wAt]
    split
    · exact ih
    · refine List.pairwise_append.2 ⟨ih, List.pairwise_singleton .., fun a ha b hb => ?_⟩
      rw [List.mem_singleton.1 hb]
      obtain ⟨j, q, hji, _, e, _⟩ := wAt_mem ha
      show a.ent.n < (i : Int)
      omega
theorem wAt_gens (ks : List Kind) (l : List Int) (i : Nat) : ∀ g ∈ (wAt ks l i).1, 0 ≤ g ∧ g < 3 := by
  induction i with
  | zero => intro g hg; cases hg
  | succ i ih =>
    intro g hg
    rw [wAt] at hg
    have h3 := nextV_range (wAt ks l i).2.2 (n := 3) (by decide)
    split at hg <;>
    · rcases List.mem_append.1 hg with hg | hg
      · exact ih g hg
      · rw [List.mem_singleton.1 hg]; exact h3
/-- Made worlds are valid. -/
theorem genWorld_ok (l : List Int) : WdOK (genWorld l) := by
  have h := nextV_range (genKinds l).2 (n := 12) (by decide)
  have h1 := wAt_len2 (genKinds l).1 (nextL (genKinds l).2 12) (nextV (genKinds l).2 12).toNat
  have h2 := wAt_len1 (genKinds l).1 (nextL (genKinds l).2 12) (nextV (genKinds l).2 12).toNat
  have h3 := wAt_gens (genKinds l).1 (nextL (genKinds l).2 12) (nextV (genKinds l).2 12).toNat
  refine ⟨genKinds_check l, ?_, ?_, fun g hg => ?_, wAt_pair _ _ _, fun it hit => ?_⟩
  · exact Nat.le_trans (Nat.le_of_eq h2) (by omega)
  · exact Nat.le_trans h1 (Nat.le_of_eq h2.symm)
  · have := h3 g hg; omega
  · obtain ⟨j, q, hji, hg, hn, hc⟩ := wAt_mem hit
    have hjl : j < (wAt (genKinds l).1 (nextL (genKinds l).2 12) (nextV (genKinds l).2 12).toNat).1.length := (List.getElem?_eq_some_iff.1 hg).1
    have hgm := h3 _ (List.mem_of_getElem? hg)
    refine ⟨by omega, ?_, ?_, by omega, by rw [hc]; exact genComps_held (genKinds_good l) q⟩
    · rw [hn]; show (j : Int) < ((wAt _ _ _).1.length : Int); omega
    · rw [hn]; exact hg
theorem genWorld_gens (l : List Int) : ∀ g ∈ (genWorld l).gens, 0 ≤ g ∧ g < 3 := wAt_gens _ _ _
end Go.Proofs.Ytfkppbkipbbmaaa

namespace Go.Proofs.Ytfkppbkipbbmaaa
set_option linter.unusedVariables false
theorem fieldsErr_iff : ∀ (fs pre : List Field), fieldsErr pre fs = 0 ↔ (∀ f ∈ fs, fieldErr f = 0) ∧ fs.Pairwise (fun a b => a.name ≠ b.name) ∧ ∀ f ∈ fs, ∀ o ∈ pre, o.name ≠ f.name
  | [], pre => by simp [fieldsErr]
  | f :: fs, pre => by
    rw [fieldsErr]
    by_cases h1 : fieldErr f = 0
    · rw [if_neg (by simp [h1])]
      by_cases h2 : pre.any (fun o => o.name == f.name) = true
      · rw [if_pos h2]
        obtain ⟨o, ho, he⟩ := List.any_eq_true.1 h2
        constructor
        · intro h; cases h
        · rintro ⟨_, _, h3⟩
          exact absurd (by simpa using he) (h3 f (by simp) o ho)
      · rw [if_neg h2, fieldsErr_iff fs (pre ++ [f])]
        have h2' : ∀ o ∈ pre, o.name ≠ f.name := fun o ho he => h2 (List.any_eq_true.2 ⟨o, ho, by simpa using he⟩)
        constructor
        · rintro ⟨a, b, c⟩
          refine ⟨fun x hx => ?_, List.pairwise_cons.2 ⟨fun x hx => ?_, b⟩, fun x hx o ho => ?_⟩
          · rcases List.mem_cons.1 hx with rfl | hx
            · exact h1
            · exact a x hx
          · exact c x hx f (by simp)
          · rcases List.mem_cons.1 hx with rfl | hx
            · exact h2' o ho
            · exact c x hx o (by simp [ho])
        · rintro ⟨a, b, c⟩
          obtain ⟨b1, b2⟩ := List.pairwise_cons.1 b
          refine ⟨fun x hx => a x (by simp [hx]), b2, fun x hx o ho => ?_⟩
          rcases List.mem_append.1 ho with ho | ho
          · exact c x (by simp [hx]) o ho
          · rw [List.mem_singleton.1 ho]; exact b1 x hx
    · rw [if_pos (by simpa using h1)]
      constructor
      · intro h; exact absurd h h1
      · rintro ⟨a, _⟩; exact absurd (a f (by simp)) h1
structure KindOK (k : Kind) : Prop where
  nm : nameOk k.name = true
  ln : k.fields.length ≤ 8
  fe : ∀ f ∈ k.fields, fieldErr f = 0
  nd : k.fields.Pairwise fun a b => a.name ≠ b.name
theorem oneErr_iff (k : Kind) : oneErr k = 0 ↔ KindOK k := by
  unfold oneErr
  by_cases h1 : nameOk k.name = true
  · rw [if_pos h1]
    by_cases h2 : 8 < k.fields.length
    · rw [if_pos h2]
      constructor
      · intro h; cases h
      · intro h; have := h.ln; omega
    · rw [if_neg h2, fieldsErr_iff]
      constructor
      · rintro ⟨a, b, _⟩; exact ⟨h1, by omega, a, b⟩
      · intro h; exact ⟨h.fe, h.nd, fun f hf o ho => by cases ho⟩
  · rw [if_neg h1]
    constructor
    · intro h; cases h
    · intro h; exact absurd h.nm h1
theorem kindsErr_iff : ∀ (fs pre : List Kind), kindsErr pre fs = 0 ↔ (∀ f ∈ fs, oneErr f = 0) ∧ fs.Pairwise (fun a b => a.name ≠ b.name) ∧ ∀ f ∈ fs, ∀ o ∈ pre, o.name ≠ f.name
  | [], pre => by simp [kindsErr]
  | f :: fs, pre => by
    rw [kindsErr]
    by_cases h1 : oneErr f = 0
    · rw [if_neg (by simp [h1])]
      by_cases h2 : pre.any (fun o => o.name == f.name) = true
      · rw [if_pos h2]
        obtain ⟨o, ho, he⟩ := List.any_eq_true.1 h2
        constructor
        · intro h; cases h
        · rintro ⟨_, _, h3⟩
          exact absurd (by simpa using he) (h3 f (by simp) o ho)
      · rw [if_neg h2, kindsErr_iff fs (pre ++ [f])]
        have h2' : ∀ o ∈ pre, o.name ≠ f.name := fun o ho he => h2 (List.any_eq_true.2 ⟨o, ho, by simpa using he⟩)
        constructor
        · rintro ⟨a, b, c⟩
          refine ⟨fun x hx => ?_, List.pairwise_cons.2 ⟨fun x hx => ?_, b⟩, fun x hx o ho => ?_⟩
          · rcases List.mem_cons.1 hx with rfl | hx
            · exact h1
            · exact a x hx
          · exact c x hx f (by simp)
          · rcases List.mem_cons.1 hx with rfl | hx
            · exact h2' o ho
            · exact c x hx o (by simp [ho])
        · rintro ⟨a, b, c⟩
          obtain ⟨b1, b2⟩ := List.pairwise_cons.1 b
          refine ⟨fun x hx => a x (by simp [hx]), b2, fun x hx o ho => ?_⟩
          rcases List.mem_append.1 ho with ho | ho
          · exact c x (by simp [hx]) o ho
          · rw [List.mem_singleton.1 ho]; exact b1 x hx
    · rw [if_pos (by simpa using h1)]
      constructor
      · intro h; exact absurd h h1
      · rintro ⟨a, _⟩; exact absurd (a f (by simp)) h1
structure KsOK (ks : List Kind) : Prop where
  ln : ks.length ≤ 16
  one : ∀ k ∈ ks, oneErr k = 0
  nd : ks.Pairwise fun a b => a.name ≠ b.name
theorem checkErr_iff (ks : List Kind) : checkErr ks = 0 ↔ KsOK ks := by
  unfold checkErr
  by_cases h : 16 < ks.length
  · rw [if_pos h]
    constructor
    · intro h; cases h
    · intro h2; have := h2.ln; omega
  · rw [if_neg h, kindsErr_iff]
    constructor
    · rintro ⟨a, b, _⟩; exact ⟨by omega, a, b⟩
    · intro h; exact ⟨h.one, h.nd, fun f hf o ho => by cases ho⟩
theorem KsOK.b {ks : List Kind} (h : KsOK ks) : KsB ks := ⟨by have := h.ln; omega, fun k hk => by have := ((oneErr_iff k).1 (h.one k hk)).ln; omega⟩
theorem zip_iff : ∀ (fs : List Field) (vs : List Int), vs.length = fs.length → (List.zipWith nearOf fs vs = vs ↔ ∀ (j : Nat) (f : Field) (v : Int), fs[j]? = some f → vs[j]? = some v → nearOf f v = v)
  | [], [], _ => by simp
  | [], _ :: _, h => by simp at h
  | _ :: _, [], h => by simp at h
  | f :: fs, v :: vs, h => by
    have ih := zip_iff fs vs (by simpa using h)
    rw [List.zipWith_cons_cons, List.cons.injEq, ih]
    constructor
    · rintro ⟨a, b⟩ j g u hg hu
      cases j with
      | zero => simp at hg hu; subst hg hu; exact a
      | succ j => exact b j g u (by simpa using hg) (by simpa using hu)
    · intro a
      exact ⟨a 0 f v rfl rfl, fun j g u hg hu => a (j + 1) g u (by simpa using hg) (by simpa using hu)⟩
theorem holds_iff (k : Kind) (vs : List Int) : holdsOf k vs = true ↔ oneErr k = 0 ∧ vs.length = k.fields.length ∧ ∀ (j : Nat) (f : Field) (v : Int), k.fields[j]? = some f → vs[j]? = some v → nearOf f v = v := by
  unfold holdsOf
  constructor
  · intro h
    simp only [Bool.and_eq_true, decide_eq_true_eq] at h
    obtain ⟨h1, h2⟩ := h
    have ho : oneErr k = 0 := by
      unfold fitOf at h1
      split at h1
      · exact h1
      · rename_i h; simpa using h
    have hl : vs.length = k.fields.length := by
      unfold fitOf at h1
      rw [if_neg (by simp [ho])] at h1
      split at h1
      · cases h1
      · rename_i h; simpa using h
    rw [fitOf_ok ho hl] at h2
    exact ⟨ho, hl, (zip_iff _ _ hl).1 h2⟩
  · rintro ⟨ho, hl, h⟩
    rw [fitOf_ok ho hl, (zip_iff _ _ hl).2 h]
    simp
/-- The kinds after a move that is possible, and its place. -/
inductive Step (ks : List Kind) (m : Move) : Nat → Nat → List Kind → Prop
  | add (h : m.act = 0) : Step ks m 0 0 (ks ++ [m.whole])
  | drop {i : Nat} {k : Kind} (h : m.act = 1) (hk : ks[i]? = some k) (hn : k.name = m.kind) : Step ks m i 0 (ks.eraseIdx i)
  | name {i : Nat} {k : Kind} (h : m.act = 2) (hk : ks[i]? = some k) (hn : k.name = m.kind) : Step ks m i 0 (ks.set i ⟨m.name, k.fields⟩)
  | addF {i : Nat} {k : Kind} (h : m.act = 3) (hk : ks[i]? = some k) (hn : k.name = m.kind) : Step ks m i 0 (ks.set i ⟨k.name, k.fields ++ [m.new]⟩)
  | dropF {i j : Nat} {k : Kind} {f : Field} (h : m.act = 4) (hk : ks[i]? = some k) (hn : k.name = m.kind) (hf : k.fields[j]? = some f) (hfn : f.name = m.field) : Step ks m i j (ks.set i ⟨k.name, k.fields.eraseIdx j⟩)
  | nameF {i j : Nat} {k : Kind} {f : Field} (h : m.act = 5) (hk : ks[i]? = some k) (hn : k.name = m.kind) (hf : k.fields[j]? = some f) (hfn : f.name = m.field) : Step ks m i j (ks.set i ⟨k.name, k.fields.set j ⟨m.name, f.bits, f.low⟩⟩)
  | retype {i j : Nat} {k : Kind} {f : Field} (h : m.act = 6) (hk : ks[i]? = some k) (hn : k.name = m.kind) (hf : k.fields[j]? = some f) (hfn : f.name = m.field) : Step ks m i j (ks.set i ⟨k.name, k.fields.set j ⟨f.name, m.new.bits, m.new.low⟩⟩)
theorem stepOf_cases {ks : List Kind} {m : Move} (h : (stepOf ks m).2 = 0) : ∃ i j : Nat, placeOf ks m = ((i : Int), (j : Int), 0) ∧ Step ks m i j (stepOf ks m).1 ∧ KsOK (stepOf ks m).1 := by
  unfold stepOf at h ⊢
  by_cases h1 : (placeOf ks m).2.2 = 0
  · rw [if_neg (by simp [h1])] at h ⊢
    obtain ⟨out, hout⟩ : ∃ out, rawOf ks m (placeOf ks m).1.toNat (placeOf ks m).2.1.toNat = out := ⟨_, rfl⟩
    rw [hout] at h ⊢
    by_cases h2 : checkErr out = 0
    · rw [if_neg (by simp [h2])] at h ⊢
      have hok := (checkErr_iff out).1 h2
      obtain ⟨ha0, ha6, hp⟩ := placeOf_at h1
      rcases hp with ⟨h0, hp⟩ | ⟨h0, i, k, hk, hkn, _, hp⟩
      · rw [hp] at hout
        unfold rawOf at hout
        rw [if_pos h0] at hout
        refine ⟨0, 0, hp, ?_, hok⟩
        subst hout
        exact .add h0
      · rcases hp with ⟨h3, hp⟩ | ⟨h3, j, f, hf, hfn, _, hp⟩
        · rw [hp] at hout
          unfold rawOf at hout
          rw [if_neg h0, Int.toNat_natCast, hk] at hout
          refine ⟨i, 0, hp, ?_, hok⟩
          by_cases a1 : m.act = 1
          · rw [if_pos a1] at hout; subst hout; exact .drop a1 hk hkn
          · rw [if_neg a1] at hout
            dsimp only at hout
            by_cases a2 : m.act = 2
            · rw [if_pos a2] at hout; subst hout; exact .name a2 hk hkn
            · rw [if_neg a2, if_pos (by omega)] at hout; subst hout; exact .addF (by omega) hk hkn
        · rw [hp] at hout
          unfold rawOf at hout
          simp only [Int.toNat_natCast, hk, hf] at hout
          rw [if_neg h0, if_neg (by omega), if_neg (by omega), if_neg (by omega)] at hout
          refine ⟨i, j, hp, ?_, hok⟩
          by_cases a4 : m.act = 4
          · rw [if_pos a4] at hout; subst hout; exact .dropF a4 hk hkn hf hfn
          · rw [if_neg a4] at hout
            by_cases a5 : m.act = 5
            · rw [if_pos a5] at hout; subst hout; exact .nameF a5 hk hkn hf hfn
            · rw [if_neg a5] at hout; subst hout; exact .retype (by omega) hk hkn hf hfn
    · rw [if_pos (by simpa using h2)] at h
      exact absurd h h2
  · rw [if_pos (by simpa using h1)] at h
    exact absurd h h1
theorem nearOf_name {f g : Field} (h1 : fieldErr f = 0) (h2 : fieldErr g = 0) (hb : f.bits = g.bits) (hl : f.low = g.low) (v : Int) : nearOf f v = nearOf g v := by
  unfold nearOf highOf
  rw [if_pos h1, if_pos h2, if_pos h1, if_pos h2, hb, hl]
/-- A valid component. -/
def CompOK (ks : List Kind) (c : Comp) : Prop := -1 < c.kind ∧ c.kind < ks.length ∧ ∃ k, ks[c.kind.toNat]? = some k ∧ holdsOf k c.vals = true
theorem fieldErr_of {ks : List Kind} (h : KsOK ks) {i : Nat} {k : Kind} (hk : ks[i]? = some k) : ∀ f ∈ k.fields, fieldErr f = 0 := ((oneErr_iff k).1 (h.one k (List.mem_of_getElem? hk))).fe
theorem compOne_ok {ks : List Kind} {m : Move} {i j : Nat} {out : List Kind} (hs : Step ks m i j out) (hks : KsOK ks) (hok : KsOK out) {c c' : Comp} (hc : CompOK ks c) (h : compOne out m i j c = some c') : CompOK out c' ∧ (m.act = 1 → c.kind ≠ i ∧ (c.kind < i → c'.kind = c.kind) ∧ (i < c.kind → c'.kind = c.kind - 1)) ∧ (m.act ≠ 1 → c'.kind = c.kind) := by
  obtain ⟨ck, cv⟩ := c
  obtain ⟨h1, h2, k0, hk0, hh⟩ := hc
  dsimp only at h1 h2 hk0 hh
  obtain ⟨n, rfl⟩ : ∃ n : Nat, ck = n := ⟨ck.toNat, by omega⟩
  rw [Int.toNat_natCast] at hk0
  have hnl : n < ks.length := by omega
  unfold compOne at h
  dsimp only at h
  cases hs with
  | add ha =>
    rw [if_neg (by omega), if_neg (by omega)] at h
    have : c' = ⟨n, cv⟩ := by
      split at h
      · rw [if_neg (by omega), if_neg (by omega), if_neg (by omega)] at h
        exact (Option.some.inj h).symm
      · exact (Option.some.inj h).symm
    subst this
    refine ⟨⟨h1, ?_, k0, ?_, hh⟩, fun h => by omega, fun _ => rfl⟩
    · rw [List.length_append]; simp; omega
    · rw [Int.toNat_natCast, List.getElem?_append_left hnl]; exact hk0
  | @drop i k ha hk hn =>
    have hil := (List.getElem?_eq_some_iff.1 hk).1
    have hel := List.length_eraseIdx_of_lt hil
    by_cases hci : (n : Int) = i
    · rw [if_pos ⟨ha, hci⟩] at h; cases h
    · rw [if_neg (by omega)] at h
      by_cases hlt : (i : Int) < n
      · rw [if_pos ⟨ha, hlt⟩] at h
        have : c' = ⟨n - 1, cv⟩ := (Option.some.inj h).symm
        subst this
        refine ⟨⟨by dsimp only; omega, by dsimp only; omega, k0, ?_, hh⟩, fun _ => ⟨hci, fun h => by dsimp only at h; omega, fun _ => rfl⟩, fun h => absurd ha h⟩
        rw [show ((n : Int) - 1).toNat = n - 1 by omega, List.getElem?_eraseIdx, if_neg (by omega), show n - 1 + 1 = n by omega]
        exact hk0
      · rw [if_neg (by omega), if_neg hci] at h
        have : c' = ⟨n, cv⟩ := (Option.some.inj h).symm
        subst this
        refine ⟨⟨h1, by dsimp only; omega, k0, ?_, hh⟩, fun _ => ⟨hci, fun _ => rfl, fun h => by dsimp only at h; omega⟩, fun h => absurd ha h⟩
        rw [Int.toNat_natCast, List.getElem?_eraseIdx, if_pos (by omega)]
        exact hk0
  | @name i k ha hk hn =>
    rw [if_neg (by omega), if_neg (by omega)] at h
    have : c' = ⟨n, cv⟩ := by
      split at h
      · rw [if_neg (by omega), if_neg (by omega), if_neg (by omega)] at h
        exact (Option.some.inj h).symm
      · exact (Option.some.inj h).symm
    subst this
    refine ⟨?_, fun h => by omega, fun _ => rfl⟩
    by_cases e : i = n
    · subst e
      rw [hk] at hk0
      obtain rfl := Option.some.inj hk0
      refine ⟨h1, by rw [List.length_set]; exact h2, _, by rw [Int.toNat_natCast]; exact List.getElem?_set_self hnl, ?_⟩
      rw [holds_iff] at hh ⊢
      exact ⟨hok.one _ (List.mem_of_getElem? (List.getElem?_set_self hnl)), hh.2⟩
    · exact ⟨h1, by rw [List.length_set]; exact h2, k0, by rw [Int.toNat_natCast, List.getElem?_set_ne e]; exact hk0, hh⟩
  | @addF i k ha hk hn =>
    rw [if_neg (by omega), if_neg (by omega)] at h
    by_cases e : i = n
    · subst e
      rw [hk] at hk0
      obtain rfl := Option.some.inj hk0
      rw [if_pos rfl, if_pos ha] at h
      have : c' = ⟨i, cv ++ [nearOf m.new m.value]⟩ := (Option.some.inj h).symm
      subst this
      have hkm := List.mem_of_getElem? (List.getElem?_set_self (a := (⟨k.name, k.fields ++ [m.new]⟩ : Kind)) hnl)
      have hone := hok.one _ hkm
      have hnew : fieldErr m.new = 0 := ((oneErr_iff _).1 hone).fe m.new (by simp)
      refine ⟨⟨h1, by rw [List.length_set]; exact h2, _, by rw [Int.toNat_natCast]; exact List.getElem?_set_self hnl, ?_⟩, fun h => by omega, fun _ => rfl⟩
      rw [holds_iff] at hh ⊢
      obtain ⟨q1, q2, q3⟩ := hh
      refine ⟨hone, by simp [q2], fun j f v hf hv => ?_⟩
      dsimp only at hf hv
      by_cases hj : j < k.fields.length
      · rw [List.getElem?_append_left hj] at hf
        rw [List.getElem?_append_left (by omega)] at hv
        exact q3 j f v hf hv
      · have hj2 : j = k.fields.length := by
          have := (List.getElem?_eq_some_iff.1 hf).1
          simp at this; omega
        subst hj2
        rw [List.getElem?_append_right (Nat.le_refl _)] at hf
        rw [List.getElem?_append_right (by omega), q2] at hv
        simp at hf hv
        subst hf hv
        exact near_near hnew _
    · rw [if_neg (by omega)] at h
      have : c' = ⟨n, cv⟩ := (Option.some.inj h).symm
      subst this
      exact ⟨⟨h1, by rw [List.length_set]; exact h2, k0, by rw [Int.toNat_natCast, List.getElem?_set_ne e]; exact hk0, hh⟩, fun h => by omega, fun _ => rfl⟩
  | @dropF i j k f ha hk hn hf hfn =>
    rw [if_neg (by omega), if_neg (by omega)] at h
    by_cases e : i = n
    · subst e
      rw [hk] at hk0
      obtain rfl := Option.some.inj hk0
      rw [if_pos rfl, if_neg (by omega), if_pos ha, Int.toNat_natCast] at h
      have : c' = ⟨i, cv.eraseIdx j⟩ := (Option.some.inj h).symm
      subst this
      have hone := hok.one _ (List.mem_of_getElem? (List.getElem?_set_self (a := (⟨k.name, k.fields.eraseIdx j⟩ : Kind)) hnl))
      refine ⟨⟨h1, by rw [List.length_set]; exact h2, _, by rw [Int.toNat_natCast]; exact List.getElem?_set_self hnl, ?_⟩, fun h => by omega, fun _ => rfl⟩
      rw [holds_iff] at hh ⊢
      obtain ⟨q1, q2, q3⟩ := hh
      have hjl := (List.getElem?_eq_some_iff.1 hf).1
      refine ⟨hone, by dsimp only; rw [List.length_eraseIdx_of_lt hjl, List.length_eraseIdx_of_lt (by omega), q2], fun q g v hg hv => ?_⟩
      dsimp only at hg hv
      rw [List.getElem?_eraseIdx] at hg hv
      split at hg
      · rename_i hq; rw [if_pos hq] at hv; exact q3 q g v hg hv
      · rename_i hq; rw [if_neg hq] at hv; exact q3 (q + 1) g v hg hv
    · rw [if_neg (by omega)] at h
      have : c' = ⟨n, cv⟩ := (Option.some.inj h).symm
      subst this
      exact ⟨⟨h1, by rw [List.length_set]; exact h2, k0, by rw [Int.toNat_natCast, List.getElem?_set_ne e]; exact hk0, hh⟩, fun h => by omega, fun _ => rfl⟩
  | @nameF i j k f ha hk hn hf hfn =>
    rw [if_neg (by omega), if_neg (by omega)] at h
    have : c' = ⟨n, cv⟩ := by
      split at h
      · rw [if_neg (by omega), if_neg (by omega), if_neg (by omega)] at h
        exact (Option.some.inj h).symm
      · exact (Option.some.inj h).symm
    subst this
    refine ⟨?_, fun h => by omega, fun _ => rfl⟩
    by_cases e : i = n
    · subst e
      rw [hk] at hk0
      obtain rfl := Option.some.inj hk0
      have hkm := List.mem_of_getElem? (List.getElem?_set_self (a := (⟨k.name, k.fields.set j ⟨m.name, f.bits, f.low⟩⟩ : Kind)) hnl)
      have hone := hok.one _ hkm
      have hjl := (List.getElem?_eq_some_iff.1 hf).1
      refine ⟨h1, by rw [List.length_set]; exact h2, _, by rw [Int.toNat_natCast]; exact List.getElem?_set_self hnl, ?_⟩
      rw [holds_iff] at hh ⊢
      obtain ⟨q1, q2, q3⟩ := hh
      refine ⟨hone, by dsimp only; rw [List.length_set]; exact q2, fun q g v hg hv => ?_⟩
      dsimp only at hg hv
      by_cases hq : j = q
      · subst hq
        rw [List.getElem?_set_self hjl] at hg
        obtain rfl := Option.some.inj hg
        rw [← nearOf_name (f := f) (fieldErr_of hks hk f (List.mem_of_getElem? hf)) (((oneErr_iff _).1 hone).fe _ (List.mem_of_getElem? (List.getElem?_set_self hjl))) rfl rfl]
        exact q3 j f v hf hv
      · rw [List.getElem?_set_ne hq] at hg
        exact q3 q g v hg hv
    · exact ⟨h1, by rw [List.length_set]; exact h2, k0, by rw [Int.toNat_natCast, List.getElem?_set_ne e]; exact hk0, hh⟩
  | @retype i j k f ha hk hn hf hfn =>
    rw [if_neg (by omega), if_neg (by omega)] at h
    by_cases e : i = n
    · subst e
      rw [hk] at hk0
      obtain rfl := Option.some.inj hk0
      have hjl := (List.getElem?_eq_some_iff.1 hf).1
      have hkm := List.mem_of_getElem? (List.getElem?_set_self (a := (⟨k.name, k.fields.set j ⟨f.name, m.new.bits, m.new.low⟩⟩ : Kind)) hnl)
      have hone := hok.one _ hkm
      have hfe := ((oneErr_iff _).1 hone).fe _ (List.mem_of_getElem? (List.getElem?_set_self (a := (⟨f.name, m.new.bits, m.new.low⟩ : Field)) hjl))
      rw [holds_iff] at hh
      obtain ⟨q1, q2, q3⟩ := hh
      have hva : cv[j]? = some cv[j] := List.getElem?_eq_getElem (by omega)
      rw [if_pos rfl, if_neg (by omega), if_neg (by omega), if_pos ha] at h
      simp only [Int.toNat_natCast, List.getElem?_set_self hnl, Option.bind_some, List.getElem?_set_self hjl, hva] at h
      have := (Option.some.inj h).symm
      subst this
      refine ⟨⟨h1, by rw [List.length_set]; exact h2, _, by rw [Int.toNat_natCast]; exact List.getElem?_set_self hnl, ?_⟩, fun h => by omega, fun _ => rfl⟩
      rw [holds_iff]
      refine ⟨hone, by dsimp only; rw [List.length_set, List.length_set]; exact q2, fun q g v hg hv => ?_⟩
      dsimp only at hg hv
      by_cases hq : j = q
      · subst hq
        rw [List.getElem?_set_self hjl] at hg
        rw [List.getElem?_set_self (by omega)] at hv
        obtain rfl := Option.some.inj hg
        obtain rfl := Option.some.inj hv
        exact near_near hfe _
      · rw [List.getElem?_set_ne hq] at hg hv
        exact q3 q g v hg hv
    · rw [if_neg (by omega)] at h
      have : c' = ⟨n, cv⟩ := (Option.some.inj h).symm
      subst this
      exact ⟨⟨h1, by rw [List.length_set]; exact h2, k0, by rw [Int.toNat_natCast, List.getElem?_set_ne e]; exact hk0, hh⟩, fun h => by omega, fun _ => rfl⟩
theorem held_iff {ks : List Kind} {l : List Comp} : heldOf ks l = true ↔ l.Pairwise (fun a b => a.kind < b.kind) ∧ ∀ c ∈ l, CompOK ks c := by
  unfold heldOf
  rw [heldFrom_iff (by omega)]
  exact Iff.rfl
theorem compsAt_ok {ks : List Kind} {m : Move} {i j : Nat} {out : List Kind} (hs : Step ks m i j out) (hks : KsOK ks) (hok : KsOK out) {l : List Comp} (h : heldOf ks l = true) : heldOf out (compsAt out m i j l) = true := by
  rw [held_iff] at h ⊢
  obtain ⟨h1, h2⟩ := h
  unfold compsAt
  refine ⟨?_, fun c hc => ?_⟩
  · rw [List.pairwise_filterMap]
    refine List.Pairwise.imp_of_mem (fun {a b} ha hb hab => ?_) h1
    intro a' ha' b' hb'
    obtain ⟨_, p2, p3⟩ := compOne_ok hs hks hok (h2 a ha) ha'
    obtain ⟨_, q2, q3⟩ := compOne_ok hs hks hok (h2 b hb) hb'
    by_cases e : m.act = 1
    · obtain ⟨p4, p5, p6⟩ := p2 e
      obtain ⟨q4, q5, q6⟩ := q2 e
      rcases Int.lt_trichotomy a.kind i with x | x | x
      · rw [p5 x]
        rcases Int.lt_trichotomy b.kind i with y | y | y
        · rw [q5 y]; exact hab
        · exact absurd y q4
        · rw [q6 y]; omega
      · exact absurd x p4
      · rw [p6 x, q6 (by omega)]; omega
    · rw [p3 e, q3 e]; exact hab
  · obtain ⟨c0, hc0, hcc⟩ := List.mem_filterMap.1 hc
    exact (compOne_ok hs hks hok (h2 c0 hc0) hcc).1
theorem worldStep_ok {w : Wd} {m : Move} (hw : WdOK w) (h : (stepOf w.kinds m).2 = 0) : WdOK (worldStep w m) := by
  obtain ⟨i, j, hp, hs, hok⟩ := stepOf_cases h
  have hks := (checkErr_iff _).1 hw.ks
  refine ⟨(checkErr_iff _).2 hok, hw.gl, ?_, hw.gs, ?_, fun it hit => ?_⟩
  · show (w.items.map _).length ≤ _
    rw [List.length_map]; exact hw.il
  · show (w.items.map _).Pairwise _
    rw [List.pairwise_map]
    exact hw.so
  · obtain ⟨it0, h0, rfl⟩ := List.mem_map.1 hit
    obtain ⟨a, b, c, d, e⟩ := hw.it it0 h0
    refine ⟨a, b, c, d, ?_⟩
    show heldOf (stepOf w.kinds m).1 (compsAt (stepOf w.kinds m).1 m (placeOf w.kinds m).1 (placeOf w.kinds m).2.1 it0.comps) = true
    rw [hp]
    exact compsAt_ok hs hks hok e
/-- Valid worlds are small. -/
theorem WdOK.l {w : Wd} (hw : WdOK w) : WdL w := by
  have hks := (checkErr_iff _).1 hw.ks
  refine ⟨hks.b, by have := hw.gl; omega, ⟨by have := hw.gl; have := hw.il; omega, fun it hit => ?_⟩⟩
  have hh := (held_iff.1 (hw.it it hit).2.2.2.2)
  refine ⟨?_, fun c hc => ?_⟩
  · have hlen : ∀ (l : List Comp) (a : Int) (n : Nat), l.Pairwise (fun a b => a.kind < b.kind) → (∀ c ∈ l, a < c.kind ∧ c.kind < n) → a < n → (l.length : Int) ≤ n - a := by
      intro l
      induction l with
      | nil => intro a n _ _ h; simp; omega
      | cons c l ih =>
        intro a n hp hr h
        obtain ⟨h1, h2⟩ := List.pairwise_cons.1 hp
        have hc := hr c (by simp)
        have := ih c.kind n h2 (fun d hd => ⟨h1 d hd, (hr d (by simp [hd])).2⟩) hc.2
        simp only [List.length_cons]
        omega
    have := hlen it.comps (-1) w.kinds.length hh.1 (fun c hc => ⟨(hh.2 c hc).1, (hh.2 c hc).2.1⟩) (by omega)
    have := hks.ln
    omega
  · obtain ⟨_, _, k, hk, hc2⟩ := hh.2 c hc
    obtain ⟨ho, hl, _⟩ := (holds_iff k c.vals).1 hc2
    have := ((oneErr_iff k).1 ho).ln
    omega
/-- What comps asks holds in a valid world. -/
theorem compFit_of {ks : List Kind} {m : Move} {i j : Nat} {out : List Kind} (hs : Step ks m i j out) {c : Comp} (hc : CompOK ks c) : CompFit out m i j c := by
  intro hck
  obtain ⟨h1, h2, k0, hk0, hh⟩ := hc
  rw [hck, Int.toNat_natCast] at hk0
  obtain ⟨_, hl, _⟩ := (holds_iff k0 c.vals).1 hh
  cases hs with
  | add ha => exact ⟨fun h => by omega, fun h => by omega⟩
  | drop ha hk hn => exact ⟨fun h => by omega, fun h => by omega⟩
  | name ha hk hn => exact ⟨fun h => by omega, fun h => by omega⟩
  | addF ha hk hn => exact ⟨fun h => by omega, fun h => by omega⟩
  | dropF ha hk hn hf hfn =>
    rw [hk] at hk0
    obtain rfl := Option.some.inj hk0
    have := (List.getElem?_eq_some_iff.1 hf).1
    exact ⟨fun _ => ⟨j, rfl, by omega⟩, fun h => by omega⟩
  | nameF ha hk hn hf hfn => exact ⟨fun h => by omega, fun h => by omega⟩
  | @retype i j k f ha hk hn hf hfn =>
    rw [hk] at hk0
    obtain rfl := Option.some.inj hk0
    have hjl := (List.getElem?_eq_some_iff.1 hf).1
    have hil := (List.getElem?_eq_some_iff.1 hk).1
    exact ⟨fun h => by omega, fun _ => ⟨i, j, _, _, rfl, rfl, List.getElem?_set_self hil, List.getElem?_set_self hjl, by omega⟩⟩
/-- Kinds, step by step. -/
theorem kindsFold_cons {ks : List Kind} {m : Move} {ms : List Move} (h : (kindsFold ks (m :: ms)).2 = 0) : (stepOf ks m).2 = 0 ∧ kindsFold ks (m :: ms) = kindsFold (stepOf ks m).1 ms := by
  rw [kindsFold] at h ⊢
  split at h
  · exact absurd h ‹_›
  · rename_i h1
    rw [if_neg h1]
    exact ⟨by simpa using h1, rfl⟩
theorem worldFold_kinds : ∀ (ms : List Move) (w : Wd), (kindsFold w.kinds ms).2 = 0 → (ms.foldl worldStep w).kinds = (kindsFold w.kinds ms).1
  | [], w, _ => rfl
  | m :: ms, w, h => by
    obtain ⟨h1, h2⟩ := kindsFold_cons h
    rw [List.foldl_cons, h2]
    rw [h2] at h
    exact worldFold_kinds ms (worldStep w m) h
theorem worldFold_ok : ∀ (ms : List Move) (w : Wd), WdOK w → (kindsFold w.kinds ms).2 = 0 → WdOK (ms.foldl worldStep w)
  | [], w, hw, _ => hw
  | m :: ms, w, hw, h => by
    obtain ⟨h1, h2⟩ := kindsFold_cons h
    rw [List.foldl_cons]
    rw [h2] at h
    exact worldFold_ok ms (worldStep w m) (worldStep_ok hw h1) h
end Go.Proofs.Ytfkppbkipbbmaaa

namespace Go.Proofs.Ytfkppbkipbbmaaa
set_option linter.unusedVariables false
/-- A list that is filled from the left: the first i of l, then z. -/
def fillTo {α : Type} (f : α → AV) (z : AV) (l : List α) (i : Nat) : List AV := (l.take i).map f ++ List.replicate (l.length - i) z
theorem fillTo_zero {α : Type} (f : α → AV) (z : AV) (l : List α) : fillTo f z l 0 = List.replicate l.length z := by simp [fillTo]
theorem fillTo_len {α : Type} (f : α → AV) (z : AV) (l : List α) (i : Nat) (h : i ≤ l.length) : (fillTo f z l i).length = l.length := by simp [fillTo]; omega
theorem fillTo_at {α : Type} (f : α → AV) (z : AV) (l : List α) {i : Nat} (h : i < l.length) : (fillTo f z l i)[i]? = some z := by
  unfold fillTo
  rw [List.getElem?_append_right (by simp; omega)]
  simp only [List.length_map, List.length_take, Nat.min_eq_left (Nat.le_of_lt h), Nat.sub_self]
  rw [List.getElem?_replicate, if_pos (by omega)]
theorem fillTo_set {α : Type} (f : α → AV) (z : AV) (l : List α) {i : Nat} (h : i < l.length) : (fillTo f z l i).set i (f l[i]) = fillTo f z l (i + 1) := by
  unfold fillTo
  rw [List.set_append_right _ _ (by simp; omega), List.take_add_one, List.getElem?_eq_getElem h]
  simp only [List.length_map, List.length_take, Nat.min_eq_left (Nat.le_of_lt h), Nat.sub_self, Option.toList_some, List.map_append, List.map_cons, List.map_nil, List.append_assoc]
  congr 1
  rw [show l.length - i = (l.length - (i + 1)) + 1 from by omega, List.replicate_succ]
  rfl
theorem fillTo_all {α : Type} (f : α → AV) (z : AV) (l : List α) {i : Nat} (h : l.length ≤ i) : fillTo f z l i = l.map f := by
  unfold fillTo
  rw [List.take_of_length_le h, show l.length - i = 0 from by omega]
  simp
theorem copyComps_ps (l : List Comp) (hl : l.length ≤ 1099511627776) (hv : ∀ c ∈ l, c.vals.length ≤ 1099511627776) : PS Try.prog 88 [compsA false false l] (compsA true false l) := by
  refine Spec.of (nt := 27) (res := [.tmp 2]) Try.func88 rfl (by kernel_rfl) rfl rfl rfl fun Sf => ?_
  have hl' : (l.map (compA false)).length ≤ 1099511627776 := by simpa using hl
  (repeat (first | (refine AOps.gN ?_; first | (refine AOps.g_make ?_; refine AOps.goM (.agg [iA 0, .prim (.slice none 0 0)]) fun K => ?_)) | refine WK ?_ | refine All.i fun X => ?_ | refine AllY.i fun Y => ?_))
  refine AWP.lp (fun i : Nat => ⟨[(3, .sl K 0 (l.map (compA false)).length), (9, compsA false false l), (10, iA (l.map (compA false)).length), (11, iA i)], (K, .row 141 2 (fillTo (compA false) (.agg [iA 0, .prim (.slice none 0 0)]) l i)) :: Sf⟩) (fun i => i ≤ l.length) (fun i => l.length - i) 0 (Nat.zero_le _) ?_ ⟨by (repeat (first | exact .nil | refine .cons (by first | rfl | assumption) ?_)), by rw [fillTo_zero, ← List.length_map (f := compA false)]; exact Sub.f⟩
  rintro i hi
  (repeat (first | refine WK ?_ | refine All.i fun X => ?_ | refine AllY.i fun Y => ?_))
  refine AWP.cond rfl (fun hc => ?_) (fun hc => ?_)
  · have h : i < l.length := by simpa using hc
    have hm : i < (l.map (compA false)).length := by simpa using h
    have hat := fillTo_at (compA false) (.agg [iA 0, .prim (.slice none 0 0)]) l h
    (repeat (first | refine WK ?_ | refine All.i fun X => ?_ | refine AllY.i fun Y => ?_))
    (repeat refine WF ?_); refine AWP.region_run (by kernel_rfl) (by kernel_rfl) ?_; (repeat (first | (refine RGo.gN ?_; first | (refine RGo.g_callf ?_; first | refine RGo.c1 (h := (cloneI_ps _ (by have := hv _ (List.getElem_mem h); omega))) (k := ?_))) | (refine RGo.gQ ?_; first | (refine RGo.g_callf ?_; first | refine RGo.c1 (h := (cloneI_ps _ (by have := hv _ (List.getElem_mem h); omega))) (k := ?_))) | refine RK ?_ | refine RGo.nil (by kernel_rfl) ?_))
    (repeat (first | refine WK ?_ | refine All.i fun X => ?_ | refine AllY.i fun Y => ?_))
    have hs := fillTo_set (compA false) (.agg [iA 0, .prim (.slice none 0 0)]) l h
    refine lp_nextS (i + 1) h ?_
    dsimp only
    rw [← hs]
    exact Sub.f
  · have h : l.length ≤ i := by rw [decide_eq_false_iff_not, List.length_map] at hc; omega
    rw [fillTo_all _ _ _ h]
    (repeat (first | refine WK ?_ | refine All.i fun X => ?_ | refine AllY.i fun Y => ?_))
    (refine AWP.ret ?_; (repeat (first | refine inB_r ?_ | refine andThen_r ?_)); refine retQ_r ?_)
    exact ⟨[.sl K 0 (l.map (compA false)).length], [.lst true 141 2 (l.map (compA false))], _, [], .cons (.tmp rfl) rfl .nil, .cons (.cell (.sl (p := 0) .here rfl)) .nil, by exact Sub.f, rfl, rfl⟩
end Go.Proofs.Ytfkppbkipbbmaaa

namespace Go.Proofs.Ytfkppbkipbbmaaa
set_option linter.unusedVariables false
/-- An item whose list of components is its own. -/
def itemB (x : Item) : AV := .agg [iA x.ent.n, iA x.ent.gen, compsA true false x.comps]
instance {x : Item} : Frz (itemB x) (itemA false x) := ⟨by unfold itemB itemA; exact Frz.h⟩
abbrev itemsB (o : Bool) (l : List Item) : AV := .lst o 36 3 (l.map itemB)
/-- A world whose lists are its own. -/
def wdCp (w : Wd) : AV := .agg [kindsA true true w.kinds, intsA true w.gens, itemsB true w.items]
instance {w : Wd} : Frz (wdCp w) (wdA false w) := ⟨by unfold wdCp wdA; exact Frz.h⟩
abbrev itemZ : AV := .agg [iA 0, iA 0, .prim (.slice none 0 0)]
set_option maxRecDepth 8000 in
set_option maxHeartbeats 2000000 in
theorem copy_ps (w : Wd) (hw : WdL w) : PS Try.prog 52 [wdA false w] (wdCp w) := by
  obtain ⟨ks, gens, items⟩ := w
  obtain ⟨⟨hk0, hk1⟩, hg, hi0, hi1⟩ := hw
  dsimp only at hk0 hk1 hg hi0 hi1
  have hkc := kindCopy_ps ks hk0 hk1
  have hgc := cloneI_ps gens (by omega)
  have hgm : (gens.map iA).length = gens.length := List.length_map _
  have him : (items.map (itemA false)).length = items.length := List.length_map _
  refine Spec.of (nt := 37) (res := [.cell 2 26]) Try.func52 rfl (by kernel_rfl) rfl rfl rfl fun Sf => ?_
  (repeat refine WF ?_); refine AWP.region ?_; (repeat (first | (refine AOps.gN ?_; first | (refine AOps.g_box ?_; refine AOps.goB ?_)) | refine WO ?_ | refine All.i fun R => ?_ | refine AllY.i fun Y => ?_)); refine AOps.nil ?_; (repeat refine WN ?_)
  (repeat refine WF ?_)
  refine AWP.rs fun W3 => AWP.rs fun I => AWP.rs fun G => AWP.rs fun K => ?_
  (repeat refine WF ?_); refine AWP.region_run (by kernel_rfl) (by kernel_rfl) ?_; (repeat (first | (refine RGo.gN ?_; first | refine RGo.t1 (h := hkc) (k := ?_) | refine RGo.t1 (h := hgc) (k := ?_) | refine RGo.s (W.make rfl rfl (by exact At.f) rfl (.inl rfl) rfl rfl (Nat.le_refl _) (by rw [him]; omega) (by rw [him]; unfold maxLen; omega)) rfl ?_) | (refine RGo.gQ ?_; first | refine RGo.t1 (h := hkc) (k := ?_) | refine RGo.t1 (h := hgc) (k := ?_) | refine RGo.s (W.make rfl rfl (by exact At.f) rfl (.inl rfl) rfl rfl (Nat.le_refl _) (by rw [him]; omega) (by rw [him]; unfold maxLen; omega)) rfl ?_) | refine RK ?_ | refine RGo.nil (by kernel_rfl) ?_))
  have hz0 : List.replicate (items.map (itemA false)).length (zAV [.int .i64 0, .int .i64 0, .slice none 0 0] true) = fillTo itemB itemZ items 0 := by rw [fillTo_zero, him]; rfl
  rw [hz0]
  (repeat first | refine AOps.nil ?_ | refine WF ?_)
  (repeat refine WF ?_); refine AWP.region ?_; (repeat (first | refine WO ?_ | refine All.i fun X => ?_ | refine AllY.i fun Y => ?_)); refine AOps.nil ?_; (repeat refine WN ?_)
  (repeat first | refine AOps.nil ?_ | refine WF ?_)
  refine AWP.lp2 (fun (i : Nat) (M : List AV) => ⟨[(2, .ptr R 0 0), (3, .ptr W3 0 0), (18, itemsA false false items), (19, iA (items.map (itemA false)).length), (20, iA i)], (K, .row 44 2 (ks.map (kindA true))) :: (G, .row 3 1 (gens.map iA)) :: (I, .row 36 3 M) :: (W3, .row 26 3 [.agg [.sl K 0 (ks.map (kindA true)).length, .sl G 0 (gens.map iA).length, .sl I 0 (items.map (itemA false)).length]]) :: (R, .row 26 3 [.agg [.prim (.slice none 0 0), .prim (.slice none 0 0), .prim (.slice none 0 0)]]) :: Sf⟩) (fun i M => i ≤ items.length ∧ M = fillTo itemB itemZ items i) (fun i _ => items.length - i) 0 _ ⟨Nat.zero_le _, rfl⟩ ?_
  rintro i M ⟨hi, hM⟩
  (repeat (first | refine WK ?_ | refine All.i fun X => ?_ | refine AllY.i fun Y => ?_))
  refine AWP.cond rfl (fun hc => ?_) (fun hc => ?_)
  · have h : i < items.length := by rw [decide_eq_true_eq, him] at hc; omega
    have hset := fillTo_set itemB itemZ items h
    have hMat : M[i]? = some itemZ := by rw [hM]; exact fillTo_at _ _ _ h
    have hMl : M.length = items.length := by rw [hM]; exact fillTo_len _ _ _ _ hi
    have hcl := hi1 _ (List.getElem_mem h)
    obtain ⟨⟨⟨en, eg⟩, cs⟩, hit⟩ : ∃ it, items[i] = it := ⟨_, rfl⟩
    rw [hit] at hset hcl
    have hat : (items.map (itemA false))[i]? = some (itemA false ⟨⟨en, eg⟩, cs⟩) := by rw [List.getElem?_map, List.getElem?_eq_getElem h, hit]; rfl
    have hil : i < (items.map (itemA false)).length := by omega
    have hcc := copyComps_ps cs hcl.1 hcl.2
    have hcm : (cs.map (compA false)).length = cs.length := List.length_map _
    (repeat (first | refine WK ?_ | refine All.i fun V => ?_ | refine AllY.i fun Y => ?_))
    refine AWP.rs fun Y => ?_
    (repeat refine WF ?_); refine AWP.region_run (by kernel_rfl) (by kernel_rfl) ?_; (repeat (first | (refine RGo.gN ?_; first | refine RGo.t1 (h := hcc) (k := ?_)) | (refine RGo.gQ ?_; first | refine RGo.t1 (h := hcc) (k := ?_)) | refine RK ?_ | refine RGo.nil (by kernel_rfl) ?_))
    (repeat refine WF ?_)
    have hMs : (M.set i (.agg [iA en, iA eg, .sl Y 0 (cs.map (compA false)).length]))[i]? = some (.agg [iA en, iA eg, .sl Y 0 (cs.map (compA false)).length]) := by rw [List.getElem?_set_self (by omega)]
    refine AWP.closeIn (X := Y) (Y := I) (by exact At.f) (by exact At.f) rfl rfl (Hos.at hMs (.agg (.tail (.tail (.head .here))))) ?_
    rw [List.set_set]
    (repeat (first | refine WK ?_ | refine All.i fun X => ?_ | refine AllY.i fun Y => ?_))
    refine lp_next2 (i + 1) _ ⟨h, ?_⟩
    rw [hM]; exact hset
  · have h : i = items.length := by rw [decide_eq_false_iff_not, him] at hc; omega
    subst h
    rw [fillTo_all _ _ _ (Nat.le_refl _)] at hM
    subst hM
    have hkl : (ks.map (kindA true)).length = (ks.map (kindA true)).length := rfl
    have hI : (items.map (itemA false)).length = (items.map itemB).length := by simp
    (repeat (first | refine WK ?_ | refine All.i fun X => ?_ | refine AllY.i fun Y => ?_))
    (refine AWP.ret ?_; (repeat (first | refine inB_r ?_ | refine andThen_r ?_)); refine retQ_r ?_)
    exact ⟨[.agg [.sl K 0 (ks.map (kindA true)).length, .sl G 0 (gens.map iA).length, .sl I 0 (items.map (itemA false)).length]], [wdCp ⟨ks, gens, items⟩], _, [], .cons (.cell (p := 4) rfl (by exact At.f) TAg.h TSize.h rfl rfl) rfl .nil, .cons (.agg (.cons (.sl (p := 0) .here rfl) (.cons (.sl (p := 0) .here rfl) (.cons (.sl (p := 0) .here hI) .nil)))) .nil, by exact Sub.f, rfl, rfl⟩
end Go.Proofs.Ytfkppbkipbbmaaa

namespace Go.Proofs.Ytfkppbkipbbmaaa
set_option linter.unusedVariables false
theorem oneErr_len {k : Kind} (h : oneErr k = 0) : k.fields.length ≤ 8 := by
  unfold oneErr at h
  split at h
  · split at h
    · cases h
    · omega
  · cases h
def fitL (k : Kind) (vals : List Int) (i : Nat) : List Int := (List.zipWith nearOf k.fields vals).take i ++ List.replicate (vals.length - i) 0
theorem fitL_at {k : Kind} {vals : List Int} {i : Nat} (hl : vals.length = k.fields.length) (h : i < vals.length) : ((fitL k vals i).map iA)[i]? = some (iA 0) := by
  have hz : (List.zipWith nearOf k.fields vals).length = vals.length := by simp; omega
  rw [List.getElem?_map, fitL, List.getElem?_append_right (by simp; omega)]
  rw [List.length_take, Nat.min_eq_left (by omega), Nat.sub_self, List.getElem?_replicate, if_pos (by omega)]
  rfl
theorem fitL_set {k : Kind} {vals : List Int} {i : Nat} (hl : vals.length = k.fields.length) (h : i < vals.length) : ((fitL k vals i).map iA).set i (iA (nearOf (k.fields[i]'(by omega)) vals[i])) = (fitL k vals (i + 1)).map iA := by
  have hz : (List.zipWith nearOf k.fields vals).length = vals.length := by simp; omega
  rw [← List.map_set]
  congr 1
  unfold fitL
  rw [List.set_append_right _ _ (by simp; omega), List.length_take, Nat.min_eq_left (by omega), Nat.sub_self]
  rw [show vals.length - i = (vals.length - (i + 1)) + 1 from by omega, List.replicate_succ, List.set_cons_zero]
  rw [List.take_add_one, List.getElem?_eq_getElem (by omega), List.append_assoc]
  simp
theorem fit_ps (k : Kind) (vals : List Int) : PS Try.prog 123 [kindA false k, intsA false vals] (.tup [intsA true (fitOf k vals).1, iA (fitOf k vals).2]) := by
  refine Spec.of (nt := 43) (res := [.tmp 4, .tmp 5]) Try.func123 rfl (by kernel_rfl) rfl rfl rfl fun Sf => ?_
  (repeat (first | (refine AOps.gN ?_; first | refine AOps.p (W.call1 rfl (one_ps _) rfl) rfl ?_ | (refine AOps.rs fun B => ?_; refine AOps.s (W.box rfl .here rfl) rfl ?_)) | refine WK ?_ | refine All.i fun X => ?_ | refine AllY.i fun Y => ?_))
  refine AWP.cond rfl (fun hb => ?_) (fun hb => ?_)
  · have hb : oneErr k ≠ 0 := by simpa using hb
    (repeat (first | refine WK ?_ | refine All.i fun X => ?_ | refine AllY.i fun Y => ?_))
    (refine AWP.ret ?_; (repeat (first | refine inB_r ?_ | refine andThen_r ?_)); refine retQ_r ?_)
    rw [show fitOf k vals = ([], oneErr k) from by simp [fitOf, hb]]
    exact ⟨[.prim (.slice none 0 0), iA (oneErr k)], [intsA true [], iA (oneErr k)], _, [], .cons (.tmp rfl) rfl (.cons (.tmp rfl) rfl .nil), .cons (.cell .nil) (.cons (.cell .same) .nil), by exact Sub.f, rfl, rfl⟩
  have hk : oneErr k = 0 := by simpa using hb
  have h8 := oneErr_len hk
  (repeat (first | refine WK ?_ | refine All.i fun X => ?_ | refine AllY.i fun Y => ?_))
  refine AWP.cond rfl (fun hb => ?_) (fun hb => ?_)
  · have hb : vals.length ≠ k.fields.length := by rw [decide_eq_true_eq, List.length_map, List.length_map] at hb; omega
    (repeat (first | refine WK ?_ | refine All.i fun X => ?_ | refine AllY.i fun Y => ?_))
    (refine AWP.ret ?_; (repeat (first | refine inB_r ?_ | refine andThen_r ?_)); refine retQ_r ?_)
    rw [show fitOf k vals = ([], 1) from by simp [fitOf, hk, hb]]
    exact ⟨[.prim (.slice none 0 0), iA 1], [intsA true [], iA 1], _, [], .cons (.tmp rfl) rfl (.cons (.tmp rfl) rfl .nil), .cons (.cell .nil) (.cons (.cell .same) .nil), by exact Sub.f, rfl, rfl⟩
  have hl : vals.length = k.fields.length := by rw [decide_eq_false_iff_not, List.length_map, List.length_map] at hb; omega
  have hv : (vals.map iA).length ≤ 8 := by simp; omega
  have hz : List.replicate (vals.map iA).length (zAV [.int .i64 0] false) = (fitL k vals 0).map iA := by simp [fitL]; exact .inr rfl
  (repeat (first | (refine AOps.gN ?_; first | (refine AOps.rs fun XL => ?_; refine AOps.s (W.make rfl rfl .here rfl (.inr rfl) rfl rfl (Nat.le_refl _) (by omega) (Nat.le_trans hv (by decide))) rfl ?_)) | refine AWP.loopR (fun i : Nat => ⟨[(1, intsA false vals), (7, .sl XL 0 (vals.map iA).length), (25, fieldsA false k.fields), (26, iA (k.fields.map fieldA).length), (27, iA i)], (XL, .row 3 1 ((fitL k vals i).map iA)) :: (B, .row 44 2 [kindA false k]) :: Sf⟩) (fun i => i ≤ vals.length) (fun i => vals.length - i) 0 (Nat.zero_le _) ⟨.cons rfl (.cons rfl (.cons rfl (.cons rfl (.cons rfl .nil)))), (by show List.Sublist ((XL, .row 3 1 ((fitL k vals 0).map iA)) :: (B, .row 44 2 [kindA false k]) :: Sf) _; rw [← hz]; exact Sub.f)⟩ ?_ | refine WK ?_ | refine All.i fun X => ?_ | refine AllY.i fun Y => ?_))
  rintro i hi
  (repeat (first | refine WK ?_ | refine All.i fun X => ?_ | refine AllY.i fun Y => ?_))
  refine AWP.cond rfl (fun hb => ?_) (fun hb => ?_)
  · have h : i < vals.length := by rw [decide_eq_true_eq, List.length_map] at hb; omega
    have h' : i < k.fields.length := by omega
    (repeat (first | (refine AOps.gN ?_; first | refine AOps.p (W.idxL rfl rfl rfl (map_at _ h')) rfl ?_) | refine WK ?_ | refine All.i fun X => ?_ | refine AllY.i fun Y => ?_))
    (repeat refine WF ?_); refine AWP.region_run (by kernel_rfl) (by kernel_rfl) ?_; (repeat (first | (refine RGo.gN ?_; first | refine RGo.p (W.idxL rfl rfl rfl (map_at _ h)) rfl ?_ | refine RGo.p (W.call2 rfl rfl (near_ps _ _) rfl) rfl ?_ | refine RGo.p (W.idx rfl rfl (by exact At.f) rfl (by simpa using h) (Nat.zero_add _)) rfl ?_ | refine RGo.s (W.store rfl rfl (by exact At.f) (fitL_at hl h) (by exact rfl)) rfl ?_) | (refine RGo.gQ ?_; first | refine RGo.p (W.idxL rfl rfl rfl (map_at _ h)) rfl ?_ | refine RGo.p (W.call2 rfl rfl (near_ps _ _) rfl) rfl ?_ | refine RGo.p (W.idx rfl rfl (by exact At.f) rfl (by simpa using h) (Nat.zero_add _)) rfl ?_ | refine RGo.s (W.store rfl rfl (by exact At.f) (fitL_at hl h) (by exact rfl)) rfl ?_) | refine RK ?_ | refine RGo.nil (by kernel_rfl) ?_))
    (repeat (first | refine WK ?_ | refine All.i fun X => ?_ | refine AllY.i fun Y => ?_))
    refine ⟨i + 1, by omega, by omega, .cons rfl (.cons rfl (.cons rfl (.cons rfl (.cons rfl .nil)))), ?_⟩
    show List.Sublist ((XL, .row 3 1 ((fitL k vals (i + 1)).map iA)) :: (B, .row 44 2 [kindA false k]) :: Sf) _
    rw [← fitL_set hl h]
    exact Sub.f
  · have h : ¬ i < vals.length := by rw [decide_eq_false_iff_not, List.length_map] at hb; omega
    (repeat (first | refine WK ?_ | refine All.i fun X => ?_ | refine AllY.i fun Y => ?_))
    (refine AWP.ret ?_; (repeat (first | refine inB_r ?_ | refine andThen_r ?_)); refine retQ_r ?_)
    rw [show fitOf k vals = (List.zipWith nearOf k.fields vals, 0) from by simp [fitOf, hk, hl]]
    have he : (fitL k vals i).map iA = (List.zipWith nearOf k.fields vals).map iA := by
      congr 1
      rw [fitL, show vals.length - i = 0 from by omega, List.take_of_length_le (by simp; omega)]
      simp
    refine ⟨[.sl XL 0 (vals.map iA).length, iA 0], [.lst true 3 1 ((fitL k vals i).map iA), iA 0], _, [], .cons (.tmp rfl) rfl (.cons (.tmp rfl) rfl .nil), .cons (.cell (.sl (p := 0) .here (by rw [he]; simp; omega))) (.cons (.cell .same) .nil), by exact Sub.f, ?_, rfl⟩
    rw [he]
    rfl
end Go.Proofs.Ytfkppbkipbbmaaa

namespace Go.Proofs.Ytfkppbkipbbmaaa
set_option linter.unusedVariables false
theorem fitOf_len8 {k : Kind} {vals : List Int} (h : (fitOf k vals).2 = 0) : (fitOf k vals).1.length = vals.length ∧ vals.length ≤ 8 := by
  unfold fitOf at h ⊢
  split
  · rename_i h1; rw [if_pos h1] at h; exact absurd h h1
  · rename_i h1
    rw [if_neg h1] at h
    split
    · rename_i h2; rw [if_pos h2] at h; cases h
    · rename_i h2; have := oneErr_len (Decidable.not_not.1 h1); simp; omega
theorem holds_ps (k : Kind) (vals : List Int) : PS Try.prog 98 [kindA false k, intsA false vals] (bA (holdsOf k vals)) := by
  refine Spec.of (nt := 31) (res := [.tmp 4]) Try.func98 rfl (by kernel_rfl) rfl rfl rfl fun Sf => ?_
  have hfr : (AV.tup [intsA true (fitOf k vals).1, iA (fitOf k vals).2]).frz = .tup [intsA false (fitOf k vals).1, iA (fitOf k vals).2] := by
    show AV.tup [(intsA true (fitOf k vals).1).frz, _] = _
    rw [intsA_frz]
    rfl
  (repeat (first | (refine AOps.gN ?_; first | refine AOps.p (W.callF2 rfl rfl (fit_ps _ _) rfl hfr) rfl ?_) | refine WK ?_ | refine All.i fun X => ?_ | refine AllY.i fun Y => ?_))
  refine AWP.cond rfl (fun hb => ?_) (fun hb => ?_)
  · have hb : (fitOf k vals).2 ≠ 0 := by simpa using hb
    (repeat (first | refine WK ?_ | refine All.i fun X => ?_ | refine AllY.i fun Y => ?_))
    (refine AWP.ret ?_; (repeat (first | refine inB_r ?_ | refine andThen_r ?_)); refine retQ_r ?_)
    refine Ends.plain rfl rfl (by exact Sub.f) ⟨?_, rfl⟩
    simp [holdsOf, hb]
  have hb : (fitOf k vals).2 = 0 := by simpa using hb
  obtain ⟨hlen, h8⟩ := fitOf_len8 hb
  obtain ⟨fl, hfl⟩ : ∃ fl, fl = (fitOf k vals).1 := ⟨_, rfl⟩
  rw [← hfl] at hlen
  rw [show holdsOf k vals = decide (fl = vals) from by simp [holdsOf, hb, hfl]]
  rw [← hfl]
  clear hfr
  (repeat (first | refine AWP.loopR (fun i : Nat => ⟨[(1, intsA false vals), (5, intsA false fl), (17, iA (fl.map iA).length), (18, iA i)], Sf⟩) (fun i => i ≤ vals.length ∧ ∀ j (h : j < vals.length), j < i → fl[j]'(by omega) = vals[j]) (fun i => vals.length - i) 0 ⟨Nat.zero_le _, fun j h hj => absurd hj (by omega)⟩ ⟨.cons rfl (.cons rfl (.cons rfl (.cons rfl .nil))), by exact Sub.f⟩ ?_ | refine WK ?_ | refine All.i fun X => ?_ | refine AllY.i fun Y => ?_))
  rintro i ⟨hi, he⟩
  (repeat (first | refine WK ?_ | refine All.i fun X => ?_ | refine AllY.i fun Y => ?_))
  refine AWP.cond rfl (fun hc => ?_) (fun hc => ?_)
  · have h : i < fl.length := by rw [decide_eq_true_eq, List.length_map] at hc; omega
    have h' : i < vals.length := by omega
    (repeat (first | refine WK ?_ | refine All.i fun X => ?_ | refine AllY.i fun Y => ?_))
    (repeat refine WF ?_); refine AWP.region_run (by kernel_rfl) (by kernel_rfl) ?_; (repeat (first | (refine RGo.gN ?_; first | refine RGo.p (W.idxL rfl rfl rfl (map_at _ h)) rfl ?_ | refine RGo.p (W.idxL rfl rfl rfl (map_at _ h')) rfl ?_) | (refine RGo.gQ ?_; first | refine RGo.p (W.idxL rfl rfl rfl (map_at _ h)) rfl ?_ | refine RGo.p (W.idxL rfl rfl rfl (map_at _ h')) rfl ?_) | refine RK ?_ | refine RGo.nil (by kernel_rfl) ?_))
    (repeat (first | refine WK ?_ | refine All.i fun X => ?_ | refine AllY.i fun Y => ?_))
    refine AWP.cond rfl (fun hd => ?_) (fun hd => ?_)
    · have hd : fl[i] ≠ vals[i] := by simpa using hd
      (repeat (first | refine WK ?_ | refine All.i fun X => ?_ | refine AllY.i fun Y => ?_))
      (refine AWP.ret ?_; (repeat (first | refine inB_r ?_ | refine andThen_r ?_)); refine retQ_r ?_)
      refine Ends.plain rfl rfl (by exact Sub.f) ⟨?_, rfl⟩
      rw [decide_eq_false (fun e => hd (by subst e; rfl))]
    · have hd : fl[i] = vals[i] := by simpa using hd
      (repeat (first | refine WK ?_ | refine All.i fun X => ?_ | refine AllY.i fun Y => ?_))
      refine ⟨i + 1, ⟨by omega, fun j h1 h2 => ?_⟩, by omega, .cons rfl (.cons rfl (.cons rfl (.cons rfl .nil))), by exact Sub.f⟩
      by_cases e : j = i
      · subst e; exact hd
      · exact he j h1 (by omega)
  · have h : ¬ i < fl.length := by rw [decide_eq_false_iff_not, List.length_map] at hc; omega
    (repeat (first | refine WK ?_ | refine All.i fun X => ?_ | refine AllY.i fun Y => ?_))
    (refine AWP.ret ?_; (repeat (first | refine inB_r ?_ | refine andThen_r ?_)); refine retQ_r ?_)
    refine Ends.plain rfl rfl (by exact Sub.f) ⟨?_, rfl⟩
    rw [decide_eq_true (List.ext_getElem hlen fun j h1 h2 => he j h2 (by omega))]
end Go.Proofs.Ytfkppbkipbbmaaa

namespace Go.Proofs.Ytfkppbkipbbmaaa
set_option linter.unusedVariables false
theorem held_ps (ks : List Kind) (l : List Comp) (hl : l.length ≤ 1099511627776) : PS Try.prog 65 [kindsA false false ks, compsA false false l] (bA (heldOf ks l)) := by
  refine Spec.of (nt := 39) (res := [.tmp 4]) Try.func65 rfl (by kernel_rfl) rfl rfl rfl fun Sf => ?_
  have hlm : (l.map (compA false)).length = l.length := List.length_map _
  (repeat (first | refine WK ?_ | refine All.i fun X => ?_ | refine AllY.i fun Y => ?_))
  refine AWP.lp2 (fun (i : Nat) (last : Int) => ⟨[(0, kindsA false false ks), (5, iA last), (8, compsA false false l), (9, iA (l.map (compA false)).length), (10, iA i)], Sf⟩) (fun i last => i ≤ l.length ∧ -1 ≤ last ∧ heldFrom ks last (l.drop i) = heldOf ks l) (fun i _ => l.length - i) 0 (-1) ⟨Nat.zero_le _, by omega, rfl⟩ ?_
  rintro i last ⟨hi, hla, he⟩
  (repeat (first | refine WK ?_ | refine All.i fun X => ?_ | refine AllY.i fun Y => ?_))
  refine AWP.cond rfl (fun hc => ?_) (fun hc => ?_)
  · have h : i < l.length := by rw [decide_eq_true_eq, hlm] at hc; omega
    obtain ⟨⟨ck, cv⟩, hcc⟩ : ∃ c, l[i] = c := ⟨_, rfl⟩
    have hat : (l.map (compA false))[i]? = some (compA false ⟨ck, cv⟩) := by rw [List.getElem?_map, List.getElem?_eq_getElem h, hcc]; rfl
    (repeat (first | refine WK ?_ | refine All.i fun X => ?_ | refine AllY.i fun Y => ?_))
    rcases Bool.eq_false_or_eq_true (decide (ck ≤ last)) with g1 | g1
    · (repeat refine WF ?_); refine AWP.region_run (by kernel_rfl) (by kernel_rfl) ?_; (repeat (first | (refine RGo.gQ ?_; first | refine RGo.goNU ?_ | refine RGo.goNV ?_) | refine RK ?_ | refine RGo.nil (by kernel_rfl) ?_))
      refine AWP.cond_t rfl (by first | rfl | assumption) ?_
      (repeat (first | refine WK ?_ | refine All.i fun X => ?_ | refine AllY.i fun Y => ?_))
      (refine AWP.ret ?_; (repeat (first | refine inB_r ?_ | refine andThen_r ?_)); refine retQ_r ?_); refine Ends.ps ?_
      rw [← he, heldFrom_no h hcc (.inl (by simpa using g1))]
    · obtain ⟨n, rfl⟩ : ∃ n : Nat, ck = n := ⟨ck.toNat, by rw [decide_eq_false_iff_not] at g1; omega⟩
      rcases Bool.eq_false_or_eq_true (decide (((ks.map (kindA false)).length : Int) ≤ n)) with g2 | g2
      · (repeat refine WF ?_); refine AWP.region_run (by kernel_rfl) (by kernel_rfl) ?_; (repeat (first | (refine RGo.gQ ?_; first | refine RGo.goNU ?_ | refine RGo.goNV ?_) | refine RK ?_ | refine RGo.nil (by kernel_rfl) ?_))
        refine AWP.cond_t rfl (by first | rfl | assumption) ?_
        (repeat (first | refine WK ?_ | refine All.i fun X => ?_ | refine AllY.i fun Y => ?_))
        (refine AWP.ret ?_; (repeat (first | refine inB_r ?_ | refine andThen_r ?_)); refine retQ_r ?_); refine Ends.ps ?_
        rw [← he, heldFrom_no h hcc (.inr (by rw [decide_eq_true_eq, List.length_map] at g2; exact g2))]
      · have hkl : n < ks.length := by rw [decide_eq_false_iff_not, List.length_map] at g2; omega
        obtain ⟨k, hk⟩ : ∃ k, ks[n] = k := ⟨_, rfl⟩
        have hka : ks[n]? = some k := by rw [List.getElem?_eq_getElem hkl, hk]
        have hat2 : (ks.map (kindA false))[n]? = some (kindA false k) := by rw [List.getElem?_map, hka]; rfl
        have hst := heldFrom_at (last := last) (k := k) h hcc hka
        dsimp only at hst
        rw [decide_eq_true (by rw [decide_eq_false_iff_not] at g1; omega), decide_eq_true (p := (n : Int) < _) (by omega), Bool.true_and, Bool.true_and, he] at hst
        have hh := holds_ps k cv
        obtain ⟨b, hb⟩ : ∃ b, holdsOf k cv = b := ⟨_, rfl⟩
        rw [hb] at hst hh
        cases b
        · (repeat refine WF ?_); refine AWP.region_run (by kernel_rfl) (by kernel_rfl) ?_; (repeat (first | (refine RGo.gN ?_; first | (refine RGo.g_callf ?_; first | refine RGo.c2 (h := (hh ..)) (k := ?_))) | (refine RGo.gQ ?_; first | (refine RGo.g_callf ?_; first | refine RGo.c2 (h := (hh ..)) (k := ?_))) | refine RK ?_ | refine RGo.nil (by kernel_rfl) ?_))
          refine AWP.cond_t rfl (by first | rfl | assumption) ?_
          (repeat (first | refine WK ?_ | refine All.i fun X => ?_ | refine AllY.i fun Y => ?_))
          (refine AWP.ret ?_; (repeat (first | refine inB_r ?_ | refine andThen_r ?_)); refine retQ_r ?_); refine Ends.ps ?_
          rw [hst]; rfl
        · (repeat refine WF ?_); refine AWP.region_run (by kernel_rfl) (by kernel_rfl) ?_; (repeat (first | (refine RGo.gN ?_; first | (refine RGo.g_callf ?_; first | refine RGo.c2 (h := (hh ..)) (k := ?_))) | (refine RGo.gQ ?_; first | (refine RGo.g_callf ?_; first | refine RGo.c2 (h := (hh ..)) (k := ?_))) | refine RK ?_ | refine RGo.nil (by kernel_rfl) ?_))
          refine AWP.cond_f rfl (by first | rfl | assumption) ?_
          (repeat (first | refine WK ?_ | refine All.i fun X => ?_ | refine AllY.i fun Y => ?_))
          refine lp_next2 (i + 1) n ⟨h, by omega, hst.symm⟩
  · have h : i = l.length := by rw [decide_eq_false_iff_not, hlm] at hc; omega
    subst h
    (repeat (first | refine WK ?_ | refine All.i fun X => ?_ | refine AllY.i fun Y => ?_))
    (refine AWP.ret ?_; (repeat (first | refine inB_r ?_ | refine andThen_r ?_)); refine retQ_r ?_); refine Ends.ps ?_
    rw [← he, List.drop_length]; rfl
set_option maxHeartbeats 2000000 in
theorem check_ps' (w : Wd) (hg : w.gens.length ≤ 1099511627776) (hi : w.items.length ≤ 1099511627776) (hc : ∀ it ∈ w.items, it.comps.length ≤ 1099511627776) : PS Try.prog 25 [wdA false w] (iA (wdErr w)) := by
  have hck := check_ps w.kinds
  obtain ⟨ke, hke⟩ : ∃ ke, checkErr w.kinds = ke := ⟨_, rfl⟩
  obtain ⟨we, hwe⟩ : ∃ we, wdErr w = we := ⟨_, rfl⟩
  rw [hwe]
  unfold wdErr at hwe
  rw [hke] at hck hwe
  obtain ⟨ks, gens, items⟩ := w
  dsimp only at hwe hg hi hc hck hke
  refine Spec.of (nt := 94) (res := [.tmp 2]) Try.func25 rfl (by kernel_rfl) rfl rfl rfl fun Sf => ?_
  have hgm : (gens.map iA).length = gens.length := List.length_map _
  have him : (items.map (itemA false)).length = items.length := List.length_map _
  (repeat refine WF ?_); refine AWP.region ?_; (repeat (first | (refine AOps.gN ?_; first | (refine AOps.g_box ?_; refine AOps.goB ?_)) | refine WO ?_ | refine All.i fun X => ?_ | refine AllY.i fun Y => ?_)); refine AOps.nil ?_; (repeat refine WN ?_)
  (repeat refine WF ?_); refine AWP.region ?_; (repeat (first | (refine AOps.gN ?_; first | (refine AOps.g_callf ?_; first | refine AOps.c1 (h := (hck ..)) (k := ?_))) | refine WO ?_ | refine All.i fun X => ?_ | refine AllY.i fun Y => ?_)); refine AOps.nil ?_; (repeat refine WN ?_)
  (repeat (first | refine WK ?_ | refine All.i fun X => ?_ | refine AllY.i fun Y => ?_))
  refine AWP.cond rfl (fun hd => ?_) (fun hd => ?_)
  · have hd : ke ≠ 0 := by simpa using hd
    (repeat (first | refine WK ?_ | refine All.i fun X => ?_ | refine AllY.i fun Y => ?_))
    (refine AWP.ret ?_; (repeat (first | refine inB_r ?_ | refine andThen_r ?_)); refine retQ_r ?_); refine Ends.ps ?_
    rw [← hwe, if_pos hd]
  have hd : ke = 0 := by simpa using hd
  rw [if_neg (by simp [hd])] at hwe
  rcases Bool.eq_false_or_eq_true (decide (256 < ((gens.map iA).length : Int))) with g1 | g1
  · (repeat (first | refine WK ?_ | refine All.i fun X => ?_ | refine AllY.i fun Y => ?_))
    refine AWP.cond_t rfl (by first | rfl | assumption) ?_
    (repeat (first | refine WK ?_ | refine All.i fun X => ?_ | refine AllY.i fun Y => ?_))
    (refine AWP.ret ?_; (repeat (first | refine inB_r ?_ | refine andThen_r ?_)); refine retQ_r ?_); refine Ends.ps ?_
    rw [← hwe, if_pos (.inl (by rw [decide_eq_true_eq, hgm] at g1; omega))]
  rcases Bool.eq_false_or_eq_true (decide (((gens.map iA).length : Int) < (items.map (itemA false)).length)) with g2 | g2
  · (repeat (first | refine WK ?_ | refine All.i fun X => ?_ | refine AllY.i fun Y => ?_))
    refine AWP.cond_t rfl (by first | rfl | assumption) ?_
    (repeat (first | refine WK ?_ | refine All.i fun X => ?_ | refine AllY.i fun Y => ?_))
    (refine AWP.ret ?_; (repeat (first | refine inB_r ?_ | refine andThen_r ?_)); refine retQ_r ?_); refine Ends.ps ?_
    rw [← hwe, if_pos (.inr (by rw [decide_eq_true_eq, hgm, him] at g2; omega))]
  (repeat (first | refine WK ?_ | refine All.i fun X => ?_ | refine AllY.i fun Y => ?_))
  refine AWP.cond_f rfl (by first | rfl | assumption) ?_
  rw [if_neg (by rw [decide_eq_false_iff_not, hgm] at g1; rw [decide_eq_false_iff_not, hgm, him] at g2; omega)] at hwe
  (repeat (first | refine WK ?_ | refine All.i fun X => ?_ | refine AllY.i fun Y => ?_))
  refine AWP.lp (fun i : Nat => ⟨[(1, .fp (wdA false ⟨ks, gens, items⟩).cells), (29, intsA false gens), (30, iA (gens.map iA).length), (31, iA i)], Sf⟩) (fun i => i ≤ gens.length ∧ ∀ j (h : j < gens.length), j < i → 0 ≤ gens[j] ∧ gens[j] ≤ 1073741824) (fun i => gens.length - i) 0 ⟨Nat.zero_le _, fun j h hj => absurd hj (by omega)⟩ ?_
  rintro i ⟨hil, hgo⟩
  (repeat (first | refine WK ?_ | refine All.i fun X => ?_ | refine AllY.i fun Y => ?_))
  refine AWP.cond rfl (fun he => ?_) (fun he => ?_)
  · have h : i < gens.length := by rw [decide_eq_true_eq, hgm] at he; omega
    obtain ⟨x, hx⟩ : ∃ x, gens[i] = x := ⟨_, rfl⟩
    have hat : (gens.map iA)[i]? = some (iA x) := by rw [List.getElem?_map, List.getElem?_eq_getElem h, hx]; rfl
    have hbad : ¬ (0 ≤ x ∧ x ≤ 1073741824) → gensOk gens = false := fun hn => by
      unfold gensOk
      rw [List.all_eq_false]
      refine ⟨x, hx ▸ List.getElem_mem h, ?_⟩
      simp only [Bool.and_eq_true, decide_eq_true_eq]
      exact hn
    (repeat (first | refine WK ?_ | refine All.i fun X => ?_ | refine AllY.i fun Y => ?_))
    refine AWP.cond rfl (fun hf => ?_) (fun hf => ?_)
    · have hf : ¬ (0 ≤ x ∧ x ≤ 1073741824) := by simp at hf; omega
      (repeat (first | refine WK ?_ | refine All.i fun X => ?_ | refine AllY.i fun Y => ?_))
      (refine AWP.ret ?_; (repeat (first | refine inB_r ?_ | refine andThen_r ?_)); refine retQ_r ?_); refine Ends.ps ?_
      rw [← hwe, if_pos (hbad hf)]
    · have hf : 0 ≤ x ∧ x ≤ 1073741824 := by simp at hf; omega
      (repeat (first | refine WK ?_ | refine All.i fun X => ?_ | refine AllY.i fun Y => ?_))
      refine lp_next (i + 1) ⟨h, fun j h1 h2 => ?_⟩
      by_cases e : j = i
      · subst e; rw [hx]; exact hf
      · exact hgo j h1 (by omega)
  have hgok : gensOk gens = true := by
    have h : i = gens.length := by rw [decide_eq_false_iff_not, hgm] at he; omega
    unfold gensOk
    rw [List.all_eq_true]
    intro x hx
    obtain ⟨j, hj, rfl⟩ := List.getElem_of_mem hx
    simp only [Bool.and_eq_true, decide_eq_true_eq]
    exact hgo j hj (by omega)
  rw [if_neg (by simp [hgok])] at hwe
  (repeat (first | refine WK ?_ | refine All.i fun X => ?_ | refine AllY.i fun Y => ?_))
  refine AWP.lp2 (fun (i : Nat) (last : Int) => ⟨[(1, .fp (wdA false ⟨ks, gens, items⟩).cells), (6, iA last), (43, itemsA false false items), (44, iA (items.map (itemA false)).length), (45, iA i)], Sf⟩) (fun i last => i ≤ items.length ∧ -1 ≤ last ∧ itemsFrom ks gens last (items.drop i) = itemsFrom ks gens (-1) items) (fun i _ => items.length - i) 0 (-1) ⟨Nat.zero_le _, by omega, rfl⟩ ?_
  clear hil hgo he i
  rintro i last ⟨hil, hla, he⟩
  (repeat (first | refine WK ?_ | refine All.i fun X => ?_ | refine AllY.i fun Y => ?_))
  refine AWP.cond rfl (fun hd' => ?_) (fun hd' => ?_)
  · have h : i < items.length := by rw [decide_eq_true_eq, him] at hd'; omega
    obtain ⟨⟨⟨en, eg⟩, cs⟩, hit⟩ : ∃ it, items[i] = it := ⟨_, rfl⟩
    have hat : (items.map (itemA false))[i]? = some (itemA false ⟨⟨en, eg⟩, cs⟩) := by rw [List.getElem?_map, List.getElem?_eq_getElem h, hit]; rfl
    have hcl := hc _ (hit ▸ List.getElem_mem h)
    dsimp only at hcl
    (repeat (first | refine WK ?_ | refine All.i fun X => ?_ | refine AllY.i fun Y => ?_))
    rcases Bool.eq_false_or_eq_true (decide (en ≤ last)) with q1 | q1
    · (repeat refine WF ?_); refine AWP.region_run (by kernel_rfl) (by kernel_rfl) ?_; (repeat (first | (refine RGo.gQ ?_; first | refine RGo.goNU ?_ | refine RGo.goNV ?_) | refine RK ?_ | refine RGo.nil (by kernel_rfl) ?_))
      refine AWP.cond_t rfl (by first | rfl | assumption) ?_
      (repeat (first | refine WK ?_ | refine All.i fun X => ?_ | refine AllY.i fun Y => ?_))
      (refine AWP.ret ?_; (repeat (first | refine inB_r ?_ | refine andThen_r ?_)); refine retQ_r ?_); refine Ends.ps ?_
      rw [← hwe, if_pos (by rw [← he, itemsFrom_no h hit (.inl (by simpa using q1))])]
    obtain ⟨n, rfl⟩ : ∃ n : Nat, en = n := ⟨en.toNat, by rw [decide_eq_false_iff_not] at q1; omega⟩
    rcases Bool.eq_false_or_eq_true (decide (((gens.map iA).length : Int) ≤ n)) with q2 | q2
    · (repeat refine WF ?_); refine AWP.region_run (by kernel_rfl) (by kernel_rfl) ?_; (repeat (first | (refine RGo.gQ ?_; first | refine RGo.goNU ?_ | refine RGo.goNV ?_) | refine RK ?_ | refine RGo.nil (by kernel_rfl) ?_))
      refine AWP.cond_t rfl (by first | rfl | assumption) ?_
      (repeat (first | refine WK ?_ | refine All.i fun X => ?_ | refine AllY.i fun Y => ?_))
      (refine AWP.ret ?_; (repeat (first | refine inB_r ?_ | refine andThen_r ?_)); refine retQ_r ?_); refine Ends.ps ?_
      rw [← hwe, if_pos (by rw [← he, itemsFrom_no h hit (.inr (by rw [decide_eq_true_eq, hgm] at q2; exact q2))])]
    have hkl : n < gens.length := by rw [decide_eq_false_iff_not, hgm] at q2; omega
    obtain ⟨g, hg'⟩ : ∃ g, gens[n] = g := ⟨_, rfl⟩
    have hga : gens[n]? = some g := by rw [List.getElem?_eq_getElem hkl, hg']
    have hat2 : (gens.map iA)[n]? = some (iA g) := by rw [List.getElem?_map, hga]; rfl
    have hst := itemsFrom_at (ks := ks) (last := last) (g := g) h hit hga
    dsimp only at hst
    rw [decide_eq_true (by rw [decide_eq_false_iff_not] at q1; omega), decide_eq_true (p := (n : Int) < _) (by omega), Bool.true_and, Bool.true_and, he] at hst
    rcases Bool.eq_false_or_eq_true (decide (eg ≠ g)) with q3 | q3
    · (repeat refine WF ?_); refine AWP.region_run (by kernel_rfl) (by kernel_rfl) ?_; (repeat (first | (refine RGo.gQ ?_; first | refine RGo.goNU ?_ | refine RGo.goNV ?_) | refine RK ?_ | refine RGo.nil (by kernel_rfl) ?_))
      refine AWP.cond_t rfl (by first | rfl | assumption) ?_
      (repeat (first | refine WK ?_ | refine All.i fun X => ?_ | refine AllY.i fun Y => ?_))
      (refine AWP.ret ?_; (repeat (first | refine inB_r ?_ | refine andThen_r ?_)); refine retQ_r ?_); refine Ends.ps ?_
      rw [← hwe, if_pos (by rw [hst, decide_eq_false (by simpa using q3)]; rfl)]
    rcases Bool.eq_false_or_eq_true (decide (eg = 1073741824)) with q4 | q4
    · (repeat refine WF ?_); refine AWP.region_run (by kernel_rfl) (by kernel_rfl) ?_; (repeat (first | (refine RGo.gQ ?_; first | refine RGo.goNU ?_ | refine RGo.goNV ?_) | refine RK ?_ | refine RGo.nil (by kernel_rfl) ?_))
      refine AWP.cond_t rfl (by first | rfl | assumption) ?_
      (repeat (first | refine WK ?_ | refine All.i fun X => ?_ | refine AllY.i fun Y => ?_))
      (refine AWP.ret ?_; (repeat (first | refine inB_r ?_ | refine andThen_r ?_)); refine retQ_r ?_); refine Ends.ps ?_
      rw [← hwe, if_pos (by rw [hst, q4]; simp)]
    have hh := held_ps ks cs hcl
    obtain ⟨b, hb⟩ : ∃ b, heldOf ks cs = b := ⟨_, rfl⟩
    rw [decide_eq_true (p := eg = g) (by simpa using q3), q4, hb, Bool.true_and, Bool.not_false, Bool.true_and] at hst
    rw [hb] at hh
    cases b
    · (repeat refine WF ?_); refine AWP.region_run (by kernel_rfl) (by kernel_rfl) ?_; (repeat (first | (refine RGo.gN ?_; first | (refine RGo.g_callf ?_; first | refine RGo.c2 (h := (hh ..)) (k := ?_))) | (refine RGo.gQ ?_; first | (refine RGo.g_callf ?_; first | refine RGo.c2 (h := (hh ..)) (k := ?_))) | refine RK ?_ | refine RGo.nil (by kernel_rfl) ?_))
      refine AWP.cond_t rfl (by first | rfl | assumption) ?_
      (repeat (first | refine WK ?_ | refine All.i fun X => ?_ | refine AllY.i fun Y => ?_))
      (refine AWP.ret ?_; (repeat (first | refine inB_r ?_ | refine andThen_r ?_)); refine retQ_r ?_); refine Ends.ps ?_
      rw [← hwe, if_pos (by rw [hst]; rfl)]
    · (repeat refine WF ?_); refine AWP.region_run (by kernel_rfl) (by kernel_rfl) ?_; (repeat (first | (refine RGo.gN ?_; first | (refine RGo.g_callf ?_; first | refine RGo.c2 (h := (hh ..)) (k := ?_))) | (refine RGo.gQ ?_; first | (refine RGo.g_callf ?_; first | refine RGo.c2 (h := (hh ..)) (k := ?_))) | refine RK ?_ | refine RGo.nil (by kernel_rfl) ?_))
      refine AWP.cond_f rfl (by first | rfl | assumption) ?_
      (repeat (first | refine WK ?_ | refine All.i fun X => ?_ | refine AllY.i fun Y => ?_))
      refine lp_next2 (i + 1) n ⟨h, by omega, hst.symm⟩
  · have h : i = items.length := by rw [decide_eq_false_iff_not, him] at hd'; omega
    (repeat (first | refine WK ?_ | refine All.i fun X => ?_ | refine AllY.i fun Y => ?_))
    (refine AWP.ret ?_; (repeat (first | refine inB_r ?_ | refine andThen_r ?_)); refine retQ_r ?_); refine Ends.ps ?_
    rw [← hwe, if_neg (by rw [← he, h, List.drop_length]; simp [itemsFrom])]
end Go.Proofs.Ytfkppbkipbbmaaa

namespace Go.Proofs.Ytfkppbkipbbmaaa
set_option linter.unusedVariables false
/-- Moves that are not too long. -/
def MsB (ms : List Move) : Prop := ms.length ≤ 1099511627776 ∧ ∀ m ∈ ms, m.whole.fields.length ≤ 1099511627776
theorem stepOf_err {ks : List Kind} {m : Move} (h : (stepOf ks m).2 ≠ 0) : (stepOf ks m).1 = [] := by
  unfold stepOf at h ⊢
  split
  · rfl
  · rename_i h1
    rw [if_neg h1] at h
    split
    · rfl
    · rename_i h2; rw [if_neg h2] at h; exact absurd rfl h
set_option maxHeartbeats 1000000 in
theorem kinds_mps (ks : List Kind) (ms : List Move) (hm : MsB ms) : PS Try.prog 22 [kindsA false false ks, movesA false false ms] (.tup [kindsA false false (kindsOf ks ms).1, iA (kindsOf ks ms).2]) := by
  have hck := check_ps ks
  obtain ⟨r, hr⟩ : ∃ r, kindsOf ks ms = r := ⟨_, rfl⟩
  rw [hr]
  unfold kindsOf at hr
  have hmm : (ms.map (moveA false)).length = ms.length := List.length_map _
  refine Spec.of (nt := 39) (res := [.tmp 4, .tmp 5]) Try.func22 rfl (by kernel_rfl) rfl rfl rfl fun Sf => ?_
  (repeat (first | (refine AOps.gN ?_; first | (refine AOps.g_callf ?_; first | refine AOps.c1 (h := (hck ..)) (k := ?_))) | refine WK ?_ | refine All.i fun X => ?_ | refine AllY.i fun Y => ?_))
  refine AWP.cond rfl (fun hc => ?_) (fun hc => ?_)
  · have hc : checkErr ks ≠ 0 := by simpa using hc
    rw [if_pos hc] at hr
    subst hr
    (repeat (first | refine WK ?_ | refine All.i fun X => ?_ | refine AllY.i fun Y => ?_))
    (refine AWP.ret ?_; (repeat (first | refine inB_r ?_ | refine andThen_r ?_)); refine retQ_r ?_)
    exact ⟨[.prim (.slice none 0 0), iA (checkErr ks)], [kindsA false false [], iA (checkErr ks)], _, [], .cons (.tmp rfl) rfl (.cons (.tmp rfl) rfl .nil), .cons (.cell .nil) (.cons (.cell .same) .nil), by exact Sub.f, rfl, rfl⟩
  have hc : checkErr ks = 0 := by simpa using hc
  rw [if_neg (by simp [hc])] at hr
  have hks := (checkErr_iff ks).1 hc
  (repeat (first | refine WK ?_ | refine All.i fun X => ?_ | refine AllY.i fun Y => ?_))
  refine AWP.cond rfl (fun hd => ?_) (fun hd => ?_)
  · have hd : 100 < ms.length := by rw [decide_eq_true_eq, hmm] at hd; omega
    rw [if_pos hd] at hr
    subst hr
    (repeat (first | refine WK ?_ | refine All.i fun X => ?_ | refine AllY.i fun Y => ?_))
    (refine AWP.ret ?_; (repeat (first | refine inB_r ?_ | refine andThen_r ?_)); refine retQ_r ?_)
    exact ⟨[.prim (.slice none 0 0), iA 2], [kindsA false false [], iA 2], _, [], .cons (.tmp rfl) rfl (.cons (.tmp rfl) rfl .nil), .cons (.cell .nil) (.cons (.cell .same) .nil), by exact Sub.f, rfl, rfl⟩
  have hd : ¬ 100 < ms.length := by rw [decide_eq_false_iff_not, hmm] at hd; omega
  rw [if_neg hd] at hr
  have hcp := kindCopy_ps ks hks.b.1 hks.b.2
  (repeat (first | (refine AOps.gN ?_; first | (refine AOps.g_callf ?_; first | refine AOps.c1 (h := (hcp ..)) (k := ?_))) | refine WK ?_ | refine All.i fun X => ?_ | refine AllY.i fun Y => ?_))
  refine AWP.lp2 (fun (q : Nat) (cur : List Kind) => ⟨[(0, kindsA false false cur), (21, movesA false false ms), (22, iA (ms.map (moveA false)).length), (23, iA q)], Sf⟩) (fun q cur => q ≤ ms.length ∧ KsOK cur ∧ kindsFold cur (ms.drop q) = r) (fun q _ => ms.length - q) 0 ks ⟨Nat.zero_le _, hks, hr⟩ ?_
  rintro q cur ⟨hq, hcur, hfold⟩
  (repeat (first | refine WK ?_ | refine All.i fun X => ?_ | refine AllY.i fun Y => ?_))
  refine AWP.cond rfl (fun he => ?_) (fun he => ?_)
  · have h : q < ms.length := by rw [decide_eq_true_eq, hmm] at he; omega
    obtain ⟨m, hmq⟩ : ∃ m, ms[q] = m := ⟨_, rfl⟩
    have hat : (ms.map (moveA false))[q]? = some (moveA false m) := by rw [List.getElem?_map, List.getElem?_eq_getElem h, hmq]; rfl
    have hone := one_mps cur m hcur.b (hm.2 m (hmq ▸ List.getElem_mem h))
    rw [List.drop_eq_getElem_cons h, hmq, kindsFold] at hfold
    (repeat (first | (refine AOps.gN ?_; first | (refine AOps.g_callf ?_; first | refine AOps.c2 (h := (hone ..)) (k := ?_))) | refine WK ?_ | refine All.i fun V => ?_ | refine AllY.i fun Y => ?_))
    refine AWP.cond rfl (fun hf => ?_) (fun hf => ?_)
    · have hf : (stepOf cur m).2 ≠ 0 := by simpa using hf
      rw [if_pos hf] at hfold
      subst hfold
      (repeat (first | refine WK ?_ | refine All.i fun X => ?_ | refine AllY.i fun Y => ?_))
      (refine AWP.ret ?_; (repeat (first | refine inB_r ?_ | refine andThen_r ?_)); refine retQ_r ?_)
      exact ⟨[.prim (.slice none 0 0), iA (stepOf cur m).2], [kindsA false false [], iA (stepOf cur m).2], _, [], .cons (.tmp rfl) rfl (.cons (.tmp rfl) rfl .nil), .cons (.cell .nil) (.cons (.cell .same) .nil), by exact Sub.f, rfl, rfl⟩
    · have hf : (stepOf cur m).2 = 0 := by simpa using hf
      rw [if_neg (by simp [hf])] at hfold
      obtain ⟨_, _, _, _, hok⟩ := stepOf_cases hf
      (repeat (first | refine WK ?_ | refine All.i fun X => ?_ | refine AllY.i fun Y => ?_))
      refine lp_next2 (q + 1) (stepOf cur m).1 ⟨h, hok, hfold⟩
  · have h : q = ms.length := by rw [decide_eq_false_iff_not, hmm] at he; omega
    rw [h, List.drop_length, kindsFold] at hfold
    subst hfold
    (repeat (first | refine WK ?_ | refine All.i fun X => ?_ | refine AllY.i fun Y => ?_))
    (refine AWP.ret ?_; (repeat (first | refine inB_r ?_ | refine andThen_r ?_)); refine retQ_r ?_)
    exact ⟨[kindsA false false cur, iA 0], [kindsA false false cur, iA 0], _, [], .cons (.tmp rfl) rfl (.cons (.tmp rfl) rfl .nil), .cons (.cell .same) (.cons (.cell .same) .nil), by exact Sub.f, rfl, rfl⟩
abbrev wdN : AV := .agg [.prim (.slice none 0 0), .prim (.slice none 0 0), .prim (.slice none 0 0)]
/-- The items, the first n after a move. -/
def stepI (out : List Kind) (m : Move) (i j : Int) (l : List Item) (n : Nat) : List Item := (l.take n).map (fun it => ⟨it.ent, compsAt out m i j it.comps⟩) ++ l.drop n
theorem stepI_at {out : List Kind} {m : Move} {i j : Int} {l : List Item} {n : Nat} (h : n < l.length) : (stepI out m i j l n)[n]? = some l[n] := by
  unfold stepI
  rw [List.getElem?_append_right (by simp; omega)]
  simp only [List.length_map, List.length_take, Nat.min_eq_left (Nat.le_of_lt h), Nat.sub_self]
  rw [List.getElem?_drop]
  simp [h]
theorem stepI_set {out : List Kind} {m : Move} {i j : Int} {l : List Item} {n : Nat} (h : n < l.length) : (stepI out m i j l n).set n ⟨l[n].ent, compsAt out m i j l[n].comps⟩ = stepI out m i j l (n + 1) := by
  unfold stepI
  rw [List.set_append_right _ _ (by simp; omega)]
  simp only [List.length_map, List.length_take, Nat.min_eq_left (Nat.le_of_lt h), Nat.sub_self]
  rw [List.drop_eq_getElem_cons h, List.set_cons_zero, List.take_succ_eq_append_getElem h, List.map_append, List.append_assoc]
  rfl
theorem stepI_len {out : List Kind} {m : Move} {i j : Int} {l : List Item} {n : Nat} : (stepI out m i j l n).length = l.length := by unfold stepI; simp; omega
set_option maxRecDepth 8000 in
set_option maxHeartbeats 4000000 in
theorem world_mps (w : Wd) (ms : List Move) (hw : WdL w) (hm : MsB ms) : PS Try.prog 18 [wdA false w, movesA false false ms] (.tup [wdA false (worldOf w ms).1, iA (worldOf w ms).2]) := by
  have hck := check_ps' w hw.gens hw.items.1 (fun it hit => (hw.items.2 it hit).1)
  have hkn := kinds_mps w.kinds ms hm
  have hcp := copy_ps w hw
  obtain ⟨r, hr⟩ : ∃ r, worldOf w ms = r := ⟨_, rfl⟩
  rw [hr]
  unfold worldOf at hr
  have hmm : (ms.map (moveA false)).length = ms.length := List.length_map _
  refine Spec.of (nt := 84) (res := [.cell 4 26, .tmp 5]) Try.func18 rfl (by kernel_rfl) rfl rfl rfl fun Sf => ?_
  (repeat refine WF ?_); refine AWP.region ?_; (repeat (first | (refine AOps.gN ?_; first | (refine AOps.rs fun B => ?_; refine AOps.s (W.box rfl .here rfl) rfl ?_)) | refine WO ?_ | refine All.i fun R => ?_ | refine AllY.i fun Y => ?_)); refine AOps.nil ?_; (repeat refine WN ?_)
  (repeat refine WF ?_); refine AWP.region ?_; (repeat (first | (refine AOps.gN ?_; first | (refine AOps.g_callf ?_; first | refine AOps.c1 (h := (hck ..)) (k := ?_))) | refine WO ?_ | refine All.i fun X => ?_ | refine AllY.i fun Y => ?_)); refine AOps.nil ?_; (repeat refine WN ?_)
  (repeat (first | refine WK ?_ | refine All.i fun X => ?_ | refine AllY.i fun Y => ?_))
  refine AWP.cond rfl (fun hc => ?_) (fun hc => ?_)
  · have hc : wdErr w ≠ 0 := by simpa using hc
    rw [if_pos hc] at hr
    subst hr
    (repeat (first | refine WK ?_ | refine All.i fun X => ?_ | refine AllY.i fun Y => ?_))
    (refine AWP.ret ?_; (repeat (first | refine inB_r ?_ | refine andThen_r ?_)); refine retQ_r ?_)
    exact ⟨[wdN, iA (wdErr w)], [wdA false ⟨[], [], []⟩, iA (wdErr w)], _, [], .cons (.cell (p := 0) rfl (by exact At.f) TAg.h TSize.h rfl rfl) rfl (.cons (.tmp rfl) rfl .nil), .cons (.agg (.cons .nil (.cons .nil (.cons .nil .nil)))) (.cons (.cell .same) .nil), by exact Sub.f, rfl, rfl⟩
  have hc : wdErr w = 0 := by simpa using hc
  rw [if_neg (by simp [hc])] at hr
  have hok := (wdErr_iff w).1 hc
  (repeat (first | (refine AOps.gN ?_; first | (refine AOps.g_callf ?_; first | refine AOps.c2 (h := (hkn ..)) (k := ?_))) | refine WK ?_ | refine All.i fun X => ?_ | refine AllY.i fun Y => ?_))
  refine AWP.cond rfl (fun hd => ?_) (fun hd => ?_)
  · have hd : (kindsOf w.kinds ms).2 ≠ 0 := by simpa using hd
    rw [if_pos hd] at hr
    subst hr
    (repeat (first | refine WK ?_ | refine All.i fun X => ?_ | refine AllY.i fun Y => ?_))
    (refine AWP.ret ?_; (repeat (first | refine inB_r ?_ | refine andThen_r ?_)); refine retQ_r ?_)
    exact ⟨[wdN, iA (kindsOf w.kinds ms).2], [wdA false ⟨[], [], []⟩, iA (kindsOf w.kinds ms).2], _, [], .cons (.cell (p := 0) rfl (by exact At.f) TAg.h TSize.h rfl rfl) rfl (.cons (.tmp rfl) rfl .nil), .cons (.agg (.cons .nil (.cons .nil (.cons .nil .nil)))) (.cons (.cell .same) .nil), by exact Sub.f, rfl, rfl⟩
  have hd : (kindsOf w.kinds ms).2 = 0 := by simpa using hd
  rw [if_neg (by simp [hd])] at hr
  have hkf : kindsOf w.kinds ms = kindsFold w.kinds ms := by
    unfold kindsOf at hd ⊢
    rw [if_neg (by simp [hok.ks])] at hd ⊢
    split at hd
    · cases hd
    · rename_i h; rw [if_neg h]
  rw [hkf] at hd
  have hil : (w.items.map itemB).length = w.items.length := List.length_map _
  (repeat first | refine AOps.nil ?_ | refine WF ?_)
  refine AWP.rs fun I => ?_
  (repeat refine WF ?_); refine AWP.region ?_; (repeat (first | (refine AOps.gN ?_; first | (refine AOps.g_callf ?_; first | refine AOps.z1 (h := hcp) (hT := .v (.agg (.cons .frz (.cons .frz (.cons (.lst (Y := I) rfl) .nil))))) (k := ?_))) | refine WO ?_ | refine All.i fun X => ?_ | refine AllY.i fun Y => ?_))
  rw [show (kindsA true true w.kinds).frz = kindsA false false w.kinds from Frz.h, intsA_frz]
  have hfi : AV.frzs (w.items.map itemB) = w.items.map (itemA false) := Frzs.h
  refine AOps.frzRow I (w.items.map (itemA false)) hfi ?_
  (repeat (first | refine WK ?_ | refine All.i fun X => ?_ | refine AllY.i fun Y => ?_))
  refine AWP.lp2 (fun (q : Nat) (cur : Wd) => ⟨[(2, .ptr B 0 0), (4, .ptr R 0 0), (36, movesA false false ms), (37, iA (ms.map (moveA false)).length), (38, iA q)], (I, .row 36 3 (cur.items.map (itemA false))) :: (R, .row 26 3 [wdN]) :: (B, .row 26 3 [.agg [kindsA false false cur.kinds, intsA false cur.gens, .sl I 0 (w.items.map itemB).length]]) :: Sf⟩) (fun q cur => q ≤ ms.length ∧ WdOK cur ∧ cur.items.length = w.items.length ∧ (kindsFold cur.kinds (ms.drop q)).2 = 0 ∧ (ms.drop q).foldl worldStep cur = ms.foldl worldStep w) (fun q _ => ms.length - q) 0 w ⟨Nat.zero_le _, hok, rfl, hd, rfl⟩ ?_
  rintro q cur ⟨hq, hcur, hcl, hkd, hfold⟩
  have hlc : (cur.items.map (itemA false)).length = cur.items.length := List.length_map _
  (repeat (first | refine WK ?_ | refine All.i fun X => ?_ | refine AllY.i fun Y => ?_))
  refine AWP.cond rfl (fun he => ?_) (fun he => ?_)
  · have h : q < ms.length := by rw [decide_eq_true_eq, hmm] at he; omega
    obtain ⟨m, hmq⟩ : ∃ m, ms[q] = m := ⟨_, rfl⟩
    have hat : (ms.map (moveA false))[q]? = some (moveA false m) := by rw [List.getElem?_map, List.getElem?_eq_getElem h, hmq]; rfl
    have hcks := (checkErr_iff _).1 hcur.ks
    have hcL := hcur.l
    have hi40 : cur.items.length ≤ 1099511627776 := hcL.items.1
    have hm40 := hm.1
    have hone := one_mps cur.kinds m hcks.b (hm.2 m (hmq ▸ List.getElem_mem h))
    have hpl := place_ps cur.kinds m hcks.b
    rw [List.drop_eq_getElem_cons h, hmq] at hkd hfold
    obtain ⟨hf, hkd2⟩ := kindsFold_cons hkd
    rw [hkd2] at hkd
    rw [List.foldl_cons] at hfold
    obtain ⟨i, j, hp, hs, hok2⟩ := stepOf_cases hf
    have hws : worldStep cur m = ⟨(stepOf cur.kinds m).1, cur.gens, cur.items.map fun it => ⟨it.ent, compsAt (stepOf cur.kinds m).1 m i j it.comps⟩⟩ := by unfold worldStep; rw [hp]
    have hcok := worldStep_ok hcur hf
    have hcomp := fun (it : Item) (hit : it ∈ cur.items) => held_iff.1 (hcur.it it hit).2.2.2.2
    obtain ⟨out, hout⟩ : ∃ out, (stepOf cur.kinds m).1 = out := ⟨_, rfl⟩
    rw [hp] at hpl
    rw [hf, hout] at hone
    rw [hout] at hs hok2 hws
    have hkk : (worldStep cur m).kinds = out := by rw [hws]
    rw [hout] at hkd
    (repeat refine WF ?_); refine AWP.region ?_; (repeat (first | refine WO ?_ | refine All.i fun V => ?_ | refine AllY.i fun Y => ?_)); refine AOps.nil ?_; (repeat refine WN ?_)
    (repeat refine WF ?_); refine AWP.region ?_; (repeat (first | (refine AOps.gN ?_; first | (refine AOps.g_callf ?_; first | refine AOps.c2 (h := (hpl ..)) (k := ?_))) | refine WO ?_ | refine All.i fun X => ?_ | refine AllY.i fun Y => ?_)); refine AOps.nil ?_; (repeat refine WN ?_)
    (repeat refine WF ?_); refine AWP.region ?_; (repeat (first | (refine AOps.gN ?_; first | (refine AOps.g_callf ?_; first | refine AOps.c2 (h := (hone ..)) (k := ?_))) | refine WO ?_ | refine All.i fun X => ?_ | refine AllY.i fun Y => ?_)); refine AOps.nil ?_; (repeat refine WN ?_)
    (repeat (first | refine WK ?_ | refine All.i fun X => ?_ | refine AllY.i fun Y => ?_))
    refine AWP.lp (fun (n : Nat) => ⟨[(2, .ptr B 0 0), (4, .ptr R 0 0), (10, .ptr V 0 0), (11, iA i), (12, iA j), (14, kindsA false false out), (36, movesA false false ms), (37, iA (ms.map (moveA false)).length), (38, iA q), (59, iA (w.items.map itemB).length), (60, iA n)], (V, .row 46 10 [moveA false m]) :: (I, .row 36 3 ((stepI out m i j cur.items n).map (itemA false))) :: (R, .row 26 3 [wdN]) :: (B, .row 26 3 [.agg [kindsA false false cur.kinds, intsA false cur.gens, .sl I 0 (w.items.map itemB).length]]) :: Sf⟩) (fun n => n ≤ cur.items.length) (fun n => cur.items.length - n) 0 (Nat.zero_le _) ?_
    rintro n hn
    have hsl : ((stepI out m i j cur.items n).map (itemA false)).length = cur.items.length := by rw [List.length_map, stepI_len]
    (repeat (first | refine WK ?_ | refine All.i fun X => ?_ | refine AllY.i fun Y => ?_))
    refine AWP.cond rfl (fun hg => ?_) (fun hg => ?_)
    · have hnl : n < cur.items.length := by rw [decide_eq_true_eq, hil] at hg; omega
      have hset := stepI_set (out := out) (m := m) (i := i) (j := j) hnl
      have hsat := stepI_at (out := out) (m := m) (i := i) (j := j) hnl
      have hcit := hcomp _ (List.getElem_mem hnl)
      have hcL2 := hcL.items.2 _ (List.getElem_mem hnl)
      obtain ⟨⟨⟨en, eg⟩, cs⟩, hit⟩ : ∃ it, cur.items[n] = it := ⟨_, rfl⟩
      rw [hit] at hset hsat hcit hcL2
      dsimp only at hset hcit hcL2
      have hat2 : ((stepI out m i j cur.items n).map (itemA false))[n]? = some (itemA false ⟨⟨en, eg⟩, cs⟩) := by rw [List.getElem?_map, hsat]; rfl
      have hnl2 : n < (w.items.map itemB).length := by omega
      have hcmp := comps_mps out m i j cs hcL2.1 (fun c hc => by obtain ⟨_, _, k, hk, hh⟩ := hcit.2 c hc; obtain ⟨ho, hl, _⟩ := (holds_iff k c.vals).1 hh; have := ((oneErr_iff k).1 ho).ln; omega) (fun c hc => by obtain ⟨h1, h2, _⟩ := hcit.2 c hc; have := hcks.ln; omega) (fun c hc => compFit_of hs (hcit.2 c hc))
      obtain ⟨cs2, hcs2⟩ : ∃ cs2, compsAt out m i j cs = cs2 := ⟨_, rfl⟩
      rw [hcs2] at hcmp hset
      (repeat (first | refine WK ?_ | refine All.i fun X => ?_ | refine AllY.i fun Y => ?_))
      refine AWP.rs fun Y => ?_
      (repeat refine WF ?_); refine AWP.region_run (by kernel_rfl) (by kernel_rfl) ?_; (repeat (first | (refine RGo.gN ?_; first | refine RGo.t5 (h := hcmp) (k := ?_)) | (refine RGo.gQ ?_; first | refine RGo.t5 (h := hcmp) (k := ?_)) | refine RK ?_ | refine RGo.nil (by kernel_rfl) ?_))
      (repeat refine WF ?_)
      have hfz : AV.frzs (cs2.map (compA false)) = cs2.map (compA false) := Frzs.h
      have hset2 : ((stepI out m i j cur.items n).map (itemA false)).set n (.agg [iA en, iA eg, compsA false false cs2]) = (stepI out m i j cur.items (n + 1)).map (itemA false) := by rw [← hset, List.map_set]; rfl
      refine AWP.iceX Y (cs2.map (compA false)) hfz (Ics.at (List.getElem?_set_self (by rw [hsl]; exact hnl)) (.agg (.cons .same (.cons .same (.cons (.base .sl) .nil))))) ?_
      rw [List.set_set, hset2]
      (repeat (first | refine WK ?_ | refine All.i fun X => ?_ | refine AllY.i fun Y => ?_))
      refine lp_next (n + 1) hnl
    · have hnl : n = cur.items.length := by rw [decide_eq_false_iff_not, hil] at hg; omega
      have hfull : stepI out m i j cur.items cur.items.length = cur.items.map fun it => ⟨it.ent, compsAt out m i j it.comps⟩ := by unfold stepI; rw [List.take_length, List.drop_length, List.append_nil]
      subst hnl
      rw [hfull]
      (repeat (first | refine WK ?_ | refine All.i fun X => ?_ | refine AllY.i fun Y => ?_))
      refine lp_next2 (q + 1) ⟨out, cur.gens, cur.items.map fun it => ⟨it.ent, compsAt out m i j it.comps⟩⟩ ⟨h, by rw [← hws]; exact hcok, by simp [hcl], hkd, by rw [← hws]; exact hfold⟩
  · have h : q = ms.length := by rw [decide_eq_false_iff_not, hmm] at he; omega
    rw [h, List.drop_length] at hfold
    rw [← hfold] at hr
    subst hr
    have hfz : AV.frzs (cur.items.map (itemA false)) = cur.items.map (itemA false) := Frzs.h
    refine AWP.iceX I (cur.items.map (itemA false)) hfz (.cons (.agg (.cons .same (.cons .same (.cons (.base .sl) .nil)))) .nil) (hn := by rw [hil, hlc, hcl]) ?_
    (repeat (first | refine WK ?_ | refine All.i fun X => ?_ | refine AllY.i fun Y => ?_))
    (refine AWP.ret ?_; (repeat (first | refine inB_r ?_ | refine andThen_r ?_)); refine retQ_r ?_)
    exact ⟨[.agg [kindsA false false cur.kinds, intsA false cur.gens, itemsA false false cur.items], iA 0], [wdA false cur, iA 0], _, [], .cons (.cell (p := 1) rfl (by exact At.f) TAg.h TSize.h rfl rfl) rfl (.cons (.tmp rfl) rfl .nil), .cons (.agg (.cons .same (.cons .same (.cons .same .nil)))) (.cons (.cell .same) .nil), by exact Sub.f, rfl, rfl⟩
end Go.Proofs.Ytfkppbkipbbmaaa

namespace Go.Proofs.Ytfkppbkipbbmaaa
set_option linter.unusedVariables false
def nmOf (i b : Int) : List UInt8 := [110, UInt8.ofNat (97 + i % 26).toNat, UInt8.ofNat (97 + b % 26).toNat]
/-- A move out of raw numbers. -/
def moveAt (k : Kind) (a b c i : Int) : Move := ⟨a % 7, k.name, match k.fields[(c % k.fields.length).toNat]? with | some f => f.name | none => [], nmOf i b, c, ⟨nmOf i b, 1 + c % 12, b % 30 - 20⟩, ⟨nmOf i b, [⟨[113], 4, c.tmod 9⟩]⟩⟩
def moveOf (ks : List Kind) (a b c i : Int) : Move :=
  match ks[(b % ks.length).toNat]? with
  | none => ⟨0, [], [], [], 0, ⟨[], 0, 0⟩, ⟨[], []⟩⟩
  | some k => moveAt k a b c i
/-- The moves out of raw numbers from the i-th one on, behind those of out. -/
def movesOf : List Kind → List Int → Nat → List Move → List Move
  | ks, a :: b :: c :: l, i, out =>
    if out.length < 6 ∧ 0 < ks.length then
      if (kindsOf ks [moveOf ks a b c i]).2 = 0 then movesOf (kindsOf ks [moveOf ks a b c i]).1 l (i + 3) (out ++ [moveOf ks a b c i])
      else movesOf ks l (i + 3) out
    else out
  | _, _, _, out => out
/-- What all lists of moves have in common; n: at most so many. -/
inductive Mvs : List Kind → List Move → Prop
  | nil {ks : List Kind} : Mvs ks []
  | cons {ks : List Kind} {a b c i : Int} {ms : List Move} (h0 : 0 < ks.length) (h : (stepOf ks (moveOf ks a b c i)).2 = 0) (k : Mvs (stepOf ks (moveOf ks a b c i)).1 ms) : Mvs ks (moveOf ks a b c i :: ms)
theorem kindsOf_one {ks : List Kind} {m : Move} (h : checkErr ks = 0) : kindsOf ks [m] = if (stepOf ks m).2 ≠ 0 then ([], (stepOf ks m).2) else ((stepOf ks m).1, 0) := by
  unfold kindsOf
  rw [if_neg (by simp [h]), if_neg (by simp)]
  rfl
theorem stepOf_ok {ks : List Kind} {m : Move} (hf : (stepOf ks m).2 = 0) : checkErr (stepOf ks m).1 = 0 := by
  obtain ⟨_, _, _, _, h⟩ := stepOf_cases hf
  exact (checkErr_iff _).2 h
theorem movesOf_app : (l : List Int) → (ks : List Kind) → (i : Nat) → (out : List Move) → checkErr ks = 0 → out.length ≤ 6 → ∃ ms, movesOf ks l i out = out ++ ms ∧ Mvs ks ms ∧ (out ++ ms).length ≤ 6
  | [], ks, i, out, _, ho => ⟨[], by simp [movesOf], .nil, by simpa using ho⟩
  | [_], ks, i, out, _, ho => ⟨[], by simp [movesOf], .nil, by simpa using ho⟩
  | [_, _], ks, i, out, _, ho => ⟨[], by simp [movesOf], .nil, by simpa using ho⟩
  | a :: b :: c :: l, ks, i, out, hk, ho => by
    unfold movesOf
    split
    · rename_i h
      have h1 := kindsOf_one (m := moveOf ks a b c i) hk
      by_cases hf : (stepOf ks (moveOf ks a b c i)).2 = 0
      · rw [if_neg (by simp [hf])] at h1
        rw [h1, if_pos rfl]
        obtain ⟨ms, e1, e2, e3⟩ := movesOf_app l (stepOf ks (moveOf ks a b c i)).1 (i + 3) (out ++ [moveOf ks a b c i]) (stepOf_ok hf) (by simp; omega)
        exact ⟨moveOf ks a b c i :: ms, by rw [e1]; simp, .cons h.2 hf e2, by simpa using e3⟩
      · rw [if_pos hf] at h1
        rw [h1, if_neg hf]
        exact movesOf_app l ks (i + 3) out hk ho
    · exact ⟨[], by simp, .nil, by simpa using ho⟩
theorem moveAt_len (k : Kind) (a b c i : Int) : (moveAt k a b c i).whole.fields.length ≤ 1 := by simp [moveAt]
theorem moveOf_len (ks : List Kind) (a b c i : Int) : (moveOf ks a b c i).whole.fields.length ≤ 1 := by
  unfold moveOf
  split
  · simp
  · exact moveAt_len ..
theorem Mvs.len {ks : List Kind} {ms : List Move} (h : Mvs ks ms) : ∀ m ∈ ms, m.whole.fields.length ≤ 1 := by
  induction h with
  | nil => simp
  | cons h0 h k ih =>
    intro m hm
    rcases List.mem_cons.1 hm with rfl | hm
    · exact moveOf_len ..
    · exact ih m hm
theorem Mvs.fold {ks : List Kind} {ms : List Move} (h : Mvs ks ms) : (kindsFold ks ms).2 = 0 := by
  induction h with
  | nil => rfl
  | cons h0 h k ih => rw [kindsFold, if_neg (by simp [h])]; exact ih
theorem movesOf_ok {ks : List Kind} {l : List Int} (hk : checkErr ks = 0) : Mvs ks (movesOf ks l 0 []) ∧ (movesOf ks l 0 []).length ≤ 6 := by
  obtain ⟨ms, e1, e2, e3⟩ := movesOf_app l ks 0 [] hk (by simp)
  rw [e1]
  exact ⟨e2, e3⟩
end Go.Proofs.Ytfkppbkipbbmaaa

namespace Go.Proofs.Ytfkppbkipbbmaaa
set_option linter.unusedVariables false
theorem u8wrap {x : Int} (h : 0 ≤ x) (h2 : x < 256) : IntKind.u8.wrap x = x := by
  have : IntKind.u8.wrap x = x % 256 := by simp [IntKind.wrap, IntKind.bits, IntKind.signed]
  rw [this]; omega
theorem nmOf_l (i b : Int) : [AV.prim (.int .u8 (97 + i % 26)), AV.prim (.int .u8 (97 + b % 26))] = [UInt8.ofNat (97 + i % 26).toNat, UInt8.ofNat (97 + b % 26).toNat].map fun b => AV.prim (.int .u8 ((b.toNat : Nat) : Int)) := by
  simp
  omega
set_option maxRecDepth 8000 in
set_option maxHeartbeats 1000000 in
theorem move_ps (ks : List Kind) (a b c i : Int) (hk : 0 < ks.length) (hl : KsB ks) : PS Try.prog 51 [kindsA false false ks, iA a, iA b, iA c, iA i] (moveA false (moveOf ks a b c i)) := by
  have hkm : (ks.map (kindA false)).length = ks.length := List.length_map _
  have hl40 := hl.1
  obtain ⟨n, hn⟩ : ∃ n : Nat, b % (ks.length : Int) = n := ⟨(b % (ks.length : Int)).toNat, by have := Int.emod_nonneg b (show (ks.length : Int) ≠ 0 by omega); omega⟩
  have hnl : n < ks.length := by have := Int.emod_lt_of_pos b (show (0 : Int) < ks.length by omega); omega
  obtain ⟨k, hkn⟩ : ∃ k, ks[n] = k := ⟨_, rfl⟩
  have hb1 : PS Try.prog 31 [iA b, iA (ks.map (kindA false)).length] (iA n) := by
    have := below_ps b (ks.length : Int) (by omega) (by omega)
    rw [hn] at this
    simpa using this
  have hat : (ks.map (kindA false))[n]? = some (kindA false k) := by rw [List.getElem?_map, List.getElem?_eq_getElem hnl, hkn]; rfl
  have hfl := hl.2 k (hkn ▸ List.getElem_mem hnl)
  have hmv : moveOf ks a b c i = moveAt k a b c i := by unfold moveOf; rw [hn, Int.toNat_natCast, List.getElem?_eq_getElem hnl, hkn]
  rw [hmv]
  have hb2 := below_ps i 26 (by decide) (by decide)
  have hb3 := below_ps b 26 (by decide) (by decide)
  have hb4 := below_ps a 7 (by decide) (by decide)
  have hb5 := below_ps c 12 (by decide) (by decide)
  have hb6 := below_ps b 30 (by decide) (by decide)
  refine Spec.of (nt := 70) (res := [.cell 10 46]) Try.func51 rfl (by kernel_rfl) rfl rfl rfl fun Sf => ?_
  (repeat refine WF ?_); refine AWP.region ?_; (repeat (first | refine WO ?_ | refine All.i fun R => ?_ | refine AllY.i fun Y => ?_)); refine AOps.nil ?_; (repeat refine WN ?_)
  (repeat refine WF ?_); refine AWP.region ?_; (repeat (first | (refine AOps.gN ?_; first | (refine AOps.g_callf ?_; first | refine AOps.c2 (h := (hb1 ..)) (k := ?_))) | refine WO ?_ | refine All.i fun V => ?_ | refine AllY.i fun Y => ?_)); refine AOps.nil ?_; (repeat refine WN ?_)
  obtain ⟨kn, kf⟩ := k
  dsimp only at hfl
  have hc1 := u8wrap (x := 97 + i % 26) (by omega) (by omega)
  have hc2 := u8wrap (x := 97 + b % 26) (by omega) (by omega)
  have hnm := nmOf_l i b
  (repeat refine WF ?_); refine AWP.region ?_; (repeat (first | (refine AOps.gN ?_; first | (refine AOps.g_callf ?_; first | refine AOps.c2 (h := (hb2 ..)) (k := ?_) | refine AOps.c2 (h := (hb3 ..)) (k := ?_)) | refine AOps.p (W.conv .i64 .u8 (by kernel_rfl) (by kernel_rfl) rfl hc1) rfl ?_ | refine AOps.p (W.conv .i64 .u8 (by kernel_rfl) (by kernel_rfl) rfl hc2) rfl ?_ | refine AOps.p (W.bytesStr (te := 5) [UInt8.ofNat (97 + i % 26).toNat, UInt8.ofNat (97 + b % 26).toNat] (by kernel_rfl) (by kernel_rfl) (by kernel_rfl) (Nat.succ_pos _) rfl hnm) rfl ?_ | refine AOps.p (W.addS (a := [110]) (b := [UInt8.ofNat (97 + i % 26).toNat, UInt8.ofNat (97 + b % 26).toNat]) (Nat.le_of_ble_eq_true rfl) rfl rfl) rfl ?_) | refine WO ?_ | refine All.i fun X => ?_ | refine AllY.i fun Y => ?_)); refine AOps.nil ?_; (repeat refine WN ?_)
  refine AWP.rs fun M => ?_
  (repeat refine WF ?_); refine AWP.region_run (by kernel_rfl) (by kernel_rfl) ?_; (repeat (first | (refine RGo.gN ?_; first | (refine RGo.g_callf ?_; first | refine RGo.c2 (h := (hb4 ..)) (k := ?_) | refine RGo.c2 (h := (hb5 ..)) (k := ?_) | refine RGo.c2 (h := (hb6 ..)) (k := ?_))) | (refine RGo.gQ ?_; first | (refine RGo.g_callf ?_; first | refine RGo.c2 (h := (hb4 ..)) (k := ?_) | refine RGo.c2 (h := (hb5 ..)) (k := ?_) | refine RGo.c2 (h := (hb6 ..)) (k := ?_))) | refine RK ?_ | refine RGo.nil (by kernel_rfl) ?_))
  have hrem : (c.tmod 9) = c.tmod 9 := rfl
  have hkfm : (kf.map fieldA).length = kf.length := List.length_map _
  (repeat refine WF ?_); refine AWP.region ?_; (repeat (first | refine WO ?_ | refine All.i fun X => ?_ | refine AllY.i fun Y => ?_)); refine AOps.nil ?_; (repeat refine WN ?_)
  obtain ⟨nm, hnmv⟩ : ∃ nm, ([110] ++ [UInt8.ofNat (97 + i % 26).toNat, UInt8.ofNat (97 + b % 26).toNat] : List UInt8) = nm := ⟨_, rfl⟩
  have hr : moveAt ⟨kn, kf⟩ a b c i = ⟨a % 7, kn, match kf[(c % kf.length).toNat]? with | some f => f.name | none => [], nm, c, ⟨nm, 1 + c % 12, b % 30 - 20⟩, ⟨nm, [⟨[113], 4, c.tmod 9⟩]⟩⟩ := by rw [← hnmv]; rfl
  rw [hr, hnmv]
  refine AWP.cond rfl (fun he => ?_) (fun he => ?_)
  · have hkl : 0 < kf.length := by have he : (0 : Int) < (kf.map fieldA).length := of_decide_eq_true he; omega
    obtain ⟨j, hj⟩ : ∃ j : Nat, c % (kf.length : Int) = j := ⟨(c % (kf.length : Int)).toNat, by have := Int.emod_nonneg c (show (kf.length : Int) ≠ 0 by omega); omega⟩
    have hjl : j < kf.length := by have := Int.emod_lt_of_pos c (show (0 : Int) < kf.length by omega); omega
    have hb7 : PS Try.prog 31 [iA c, iA (kf.map fieldA).length] (iA j) := by
      have := below_ps c (kf.length : Int) (by omega) (by omega)
      rw [hj] at this
      simpa using this
    obtain ⟨f, hf⟩ : ∃ f, kf[j] = f := ⟨_, rfl⟩
    have hat2 : (kf.map fieldA)[j]? = some (fieldA f) := by rw [List.getElem?_map, List.getElem?_eq_getElem hjl, hf]; rfl
    rw [hj, Int.toNat_natCast, List.getElem?_eq_getElem hjl, hf]
    (repeat refine WF ?_); refine AWP.region_run (by kernel_rfl) (by kernel_rfl) ?_; (repeat (first | (refine RGo.gN ?_; first | (refine RGo.g_callf ?_; first | refine RGo.c2 (h := (hb7 ..)) (k := ?_))) | (refine RGo.gQ ?_; first | (refine RGo.g_callf ?_; first | refine RGo.c2 (h := (hb7 ..)) (k := ?_))) | refine RK ?_ | refine RGo.nil (by kernel_rfl) ?_))
    (repeat refine WF ?_)
    (repeat (first | (refine AOps.gN ?_; first | (refine AOps.g_lit ?_; refine AOps.goL (fieldA ⟨[113], 4, c.tmod 9⟩) ?_) | refine AOps.p (W.rem rfl rfl (by decide)) rfl ?_) | refine WK ?_ | refine All.i fun X => ?_ | refine AllY.i fun Y => ?_))
    (refine AWP.ret ?_; (repeat (first | refine inB_r ?_ | refine andThen_r ?_)); refine retQ_r ?_)
    refine Ends.id (rs := [moveA false ⟨a % 7, kn, f.name, nm, c, ⟨nm, 1 + c % 12, b % 30 - 20⟩, ⟨nm, [⟨[113], 4, c.tmod 9⟩]⟩⟩]) rfl
  · have hkl : kf = [] := List.length_eq_zero_iff.1 (by have he : ¬ (0 : Int) < (kf.map fieldA).length := of_decide_eq_false he; omega)
    subst hkl
    (repeat (first | (refine AOps.gN ?_; first | (refine AOps.g_lit ?_; refine AOps.goL (fieldA ⟨[113], 4, c.tmod 9⟩) ?_) | refine AOps.p (W.rem rfl rfl (by decide)) rfl ?_) | refine WK ?_ | refine All.i fun X => ?_ | refine AllY.i fun Y => ?_))
    (refine AWP.ret ?_; (repeat (first | refine inB_r ?_ | refine andThen_r ?_)); refine retQ_r ?_)
    refine Ends.id (rs := [moveA false ⟨a % 7, kn, [], nm, c, ⟨nm, 1 + c % 12, b % 30 - 20⟩, ⟨nm, [⟨[113], 4, c.tmod 9⟩]⟩⟩]) rfl
theorem move_free (m : Move) : FreeE (moveA false m) := FreeE.agg fun x hx => by
  simp only [List.mem_cons, List.not_mem_nil, or_false] at hx
  rcases hx with rfl | rfl | rfl | rfl | rfl | rfl | rfl | rfl | rfl | rfl
  all_goals first | exact FreeE.prim _ | exact lstF_free _ _ _
theorem moves_free (l : List Move) : FreeL (l.map (moveA false)) := fun x hx => by
  obtain ⟨f, _, rfl⟩ := List.mem_map.1 hx
  exact move_free f
set_option maxRecDepth 8000 in
set_option maxHeartbeats 1000000 in
theorem moves_ps (ks : List Kind) (l : List Int) (hk : checkErr ks = 0) (hlen : l.length * 8 ≤ 140737488351232) : PS Try.prog 16 [kindsA false false ks, intsA false l] (movesA true false (movesOf ks l 0 [])) := by
  have hlm : (l.map iA).length = l.length := List.length_map _
  refine Spec.of (nt := 59) (res := [.tmp 4]) Try.func16 rfl (by kernel_rfl) rfl rfl rfl fun Sf => ?_
  obtain ⟨r, hr⟩ : ∃ r, movesOf ks l 0 [] = r := ⟨_, rfl⟩
  rw [hr]
  (repeat (first | refine WK ?_ | refine All.i fun X => ?_ | refine AllY.i fun Y => ?_))
  refine AWP.adopt (d := 5) 46 10 rfl fun O => ?_
  refine AWP.lp4 (fun (q Y : Nat) (out : List Move) (cur : List Kind) => ⟨[(0, kindsA false false cur), (1, intsA false l), (5, .sl Y 0 out.length), (6, iA q)], (Y, .row 46 10 (out.map (moveA false))) :: Sf⟩) (fun q _ out cur => q ≤ l.length + 2 ∧ checkErr cur = 0 ∧ out.length ≤ 6 ∧ movesOf cur (l.drop q) q out = r) (fun q _ _ _ => l.length + 3 - q) 0 O [] ks ⟨Nat.zero_le _, hk, Nat.zero_le _, hr⟩ ?_
  rintro q Y out cur ⟨hq, hc, ho, hfold⟩
  have hcm : (cur.map (kindA false)).length = cur.length := List.length_map _
  have hcb := ((checkErr_iff cur).1 hc).b
  have hcl := hcb.1
  (repeat (first | refine WK ?_ | refine All.i fun X => ?_ | refine AllY.i fun Y => ?_))
  refine AWP.cond rfl (fun he => ?_) (fun he => ?_)
  · have he : ((q : Int) + 2 < (l.map iA).length ∧ (out.length : Int) < 6) ∧ (0 : Int) < (cur.map (kindA false)).length := by simpa only [Bool.and_eq_true, decide_eq_true_eq] using he
    have h : q + 2 < l.length := by omega
    have hc0 : 0 < cur.length := by omega
    have ho6 : out.length < 6 := by omega
    obtain ⟨a, ha⟩ : ∃ a, l[q] = a := ⟨_, rfl⟩
    obtain ⟨b, hb⟩ : ∃ b, l[q + 1] = b := ⟨_, rfl⟩
    obtain ⟨c, hcv⟩ : ∃ c, l[q + 2] = c := ⟨_, rfl⟩
    have hat0 : (l.map iA)[q]? = some (iA a) := by rw [List.getElem?_map, List.getElem?_eq_getElem (by omega), ha]; rfl
    have hat1 : (l.map iA)[q + 1]? = some (iA b) := by rw [List.getElem?_map, List.getElem?_eq_getElem (by omega), hb]; rfl
    have hat2 : (l.map iA)[q + 2]? = some (iA c) := by rw [List.getElem?_map, List.getElem?_eq_getElem (by omega), hcv]; rfl
    rw [List.drop_eq_getElem_cons (by omega), ha, List.drop_eq_getElem_cons (by omega), hb, List.drop_eq_getElem_cons (by omega), hcv, movesOf, if_pos ⟨ho6, hc0⟩] at hfold
    have hmv := move_ps cur a b c (q : Int) hc0 hcb
    have hml := moveOf_len cur a b c q
    obtain ⟨m, hm⟩ : ∃ m, moveOf cur a b c q = m := ⟨_, rfl⟩
    rw [hm] at hfold hmv hml
    have hkn := kinds_mps cur [m] ⟨by simp, fun x hx => by rw [List.mem_singleton.1 hx]; omega⟩
    have hko : (kindsOf cur [m]).2 = 0 → checkErr (kindsOf cur [m]).1 = 0 := fun h0 => by
      have h1 := kindsOf_one (m := m) hc
      by_cases hf : (stepOf cur m).2 = 0
      · rw [if_neg (by simp [hf])] at h1
        rw [h1]; exact stepOf_ok hf
      · rw [if_pos hf] at h1
        rw [h1] at h0; exact absurd h0 hf
    obtain ⟨kr, hkr⟩ : ∃ kr, kindsOf cur [m] = kr := ⟨_, rfl⟩
    rw [hkr] at hfold hkn hko
    (repeat refine WF ?_)
    refine AWP.rs fun V => ?_
    (repeat refine WF ?_); refine AWP.region_run (by kernel_rfl) (by kernel_rfl) ?_; (repeat (first | (refine RGo.gN ?_; first | (refine RGo.g_callf ?_; first | refine RGo.c5 (h := (hmv ..)) (k := ?_))) | (refine RGo.gQ ?_; first | (refine RGo.g_callf ?_; first | refine RGo.c5 (h := (hmv ..)) (k := ?_))) | refine RK ?_ | refine RGo.nil (by kernel_rfl) ?_))
    (repeat (first | (refine AOps.gN ?_; first | (refine AOps.g_callf ?_; first | refine AOps.c2 (h := (hkn ..)) (k := ?_)) | (refine AOps.g_lit ?_; refine AOps.goL (moveA false m) ?_)) | refine WK ?_ | refine All.i fun X => ?_ | refine AllY.i fun Y => ?_))
    refine AWP.cond rfl (fun hg => ?_) (fun hg => ?_)
    · have hg : kr.2 = 0 := by simpa using hg
      rw [if_pos hg] at hfold
      have hol : (out.map (moveA false)).length = out.length := List.length_map _
      have hb2 : (out.length + [moveA false m].length) * 136 ≤ 140737488355328 := by simp; omega
      (repeat (first | (refine AOps.gN ?_; first | (refine AOps.g_lit ?_; refine AOps.goL (moveA false m) ?_)) | refine WK ?_ | refine All.i fun X => ?_ | refine AllY.i fun Y => ?_))
      refine lp_next4 (q + 3) Y (out ++ [m]) kr.1 ⟨by omega, hko hg, by simp; omega, hfold⟩ (h0 := by rw [List.map_append, List.length_append]; exact ⟨by exact Lk.f, by exact Sub.f⟩)
    · have hg : kr.2 ≠ 0 := by simpa using hg
      rw [if_neg hg] at hfold
      (repeat (first | refine WK ?_ | refine All.i fun X => ?_ | refine AllY.i fun Y => ?_))
      refine lp_next4 (q + 3) Y out cur ⟨by omega, hc, ho, hfold⟩
  · have h : movesOf cur (l.drop q) q out = out := by
      have he : ¬ (((q : Int) + 2 < (l.map iA).length ∧ (out.length : Int) < 6) ∧ (0 : Int) < (cur.map (kindA false)).length) := fun h => by
        have := he
        rw [decide_eq_true h.1.1, decide_eq_true h.1.2, decide_eq_true h.2] at this
        cases this
      by_cases h2 : q + 2 < l.length
      · rw [List.drop_eq_getElem_cons (by omega), List.drop_eq_getElem_cons (by omega), List.drop_eq_getElem_cons (by omega), movesOf, if_neg (fun h => he (by omega))]
      · have h3 : (l.drop q).length ≤ 2 := by rw [List.length_drop]; omega
        match hd : l.drop q with
        | [] => rfl
        | [_] => rfl
        | [_, _] => rfl
        | _ :: _ :: _ :: _ => rw [hd] at h3; simp at h3
    rw [h] at hfold
    subst hfold
    (repeat (first | refine WK ?_ | refine All.i fun X => ?_ | refine AllY.i fun Y => ?_))
    (refine AWP.ret ?_; (repeat (first | refine inB_r ?_ | refine andThen_r ?_)); refine retQ_r ?_)
    exact ⟨[.sl Y 0 out.length], [.lst true 46 10 (out.map (moveA false))], _, [], .cons (.tmp rfl) rfl .nil, .cons (.cell (.sl (p := 0) .here (by simp))) .nil, by exact Sub.f, rfl, rfl⟩
end Go.Proofs.Ytfkppbkipbbmaaa

namespace Go.Proofs.Ytfkppbkipbbmaaa
set_option linter.unusedVariables false
theorem isNaN_ps (a : Int) : PS Try.prog 103 [iA a] (bA false) := by
  refine Spec.of (nt := 6) (res := [.tmp 2]) Try.func103 rfl (by kernel_rfl) rfl rfl rfl fun Sf => ?_
  (repeat (first | refine WK ?_ | refine All.i fun X => ?_ | refine AllY.i fun Y => ?_))
  (refine AWP.ret ?_; (repeat (first | refine inB_r ?_ | refine andThen_r ?_)); refine retQ_r ?_); refine Ends.ps ?_
  have : decide (a ≠ a) = false := decide_eq_false (by simp)
  rw [this]
def cmpI (a b : Int) : Int := if a < b then -1 else if b < a then 1 else 0
theorem compare_ps (a b : Int) : PS Try.prog 119 [iA a, iA b] (iA (cmpI a b)) := by
  refine Spec.of (nt := 20) (res := [.tmp 4]) Try.func119 rfl (by kernel_rfl) rfl rfl rfl fun Sf => ?_
  (repeat (first | (refine AOps.gN ?_; first | (refine AOps.g_callf ?_; first | refine AOps.c1 (h := (isNaN_ps a)) (k := ?_) | refine AOps.c1 (h := (isNaN_ps b)) (k := ?_))) | refine WK ?_ | refine All.i fun X => ?_ | refine AllY.i fun Y => ?_))
  refine AWP.cond_f rfl rfl ?_
  (repeat (first | refine WK ?_ | refine All.i fun X => ?_ | refine AllY.i fun Y => ?_))
  refine AWP.cond_f rfl rfl ?_
  (repeat (first | refine WK ?_ | refine All.i fun X => ?_ | refine AllY.i fun Y => ?_))
  refine AWP.cond rfl (fun h => ?_) (fun h => ?_)
  · have h : a < b := by simpa using h
    (repeat (first | refine WK ?_ | refine All.i fun X => ?_ | refine AllY.i fun Y => ?_))
    (refine AWP.ret ?_; (repeat (first | refine inB_r ?_ | refine andThen_r ?_)); refine retQ_r ?_); refine Ends.ps ?_
    rw [cmpI, if_pos h]
  · have h : ¬ a < b := by simpa using h
    (repeat (first | refine WK ?_ | refine All.i fun X => ?_ | refine AllY.i fun Y => ?_))
    refine AWP.cond rfl (fun h2 => ?_) (fun h2 => ?_)
    · have h2 : b < a := by simpa using h2
      (repeat (first | refine WK ?_ | refine All.i fun X => ?_ | refine AllY.i fun Y => ?_))
      (refine AWP.ret ?_; (repeat (first | refine inB_r ?_ | refine andThen_r ?_)); refine retQ_r ?_); refine Ends.ps ?_
      rw [cmpI, if_neg h, if_pos h2]
    · have h2 : ¬ b < a := by simpa using h2
      (repeat (first | refine WK ?_ | refine All.i fun X => ?_ | refine AllY.i fun Y => ?_))
      (refine AWP.ret ?_; (repeat (first | refine inB_r ?_ | refine andThen_r ?_)); refine retQ_r ?_); refine Ends.ps ?_
      rw [cmpI, if_neg h, if_neg h2]
end Go.Proofs.Ytfkppbkipbbmaaa

namespace Go.Proofs.Ytfkppbkipbbmaaa
set_option linter.unusedVariables false
theorem indexFuncT_ps (l : List Item) (f : FuncId) (cap : List AV) (p : Item → Bool) (hs : st1s cap = true) (hl : l.length ≤ 4611686018427387904) (hf : ∀ x ∈ l, PS Try.prog f ((itemA false) x :: cap) (bA (p x))) : PS Try.prog 115 [.lst false 36 3 (l.map (itemA false)), .fn f cap] (iA (idxF l p)) := by
  refine Spec.of (nt := 19) (res := [.tmp 4]) Try.func115 rfl (by kernel_rfl) rfl rfl rfl fun Sf => ?_
  (repeat (first | refine WK ?_ | refine All.i fun X => ?_ | refine AllY.i fun Y => ?_))
  refine AWP.lp (fun i : Nat => ⟨[(0, .lst false 36 3 (l.map (itemA false))), (1, .fn f cap), (7, iA (l.map (itemA false)).length), (8, iA i)], Sf⟩) (fun i => i ≤ l.length ∧ ∀ j (h : j < l.length), j < i → p l[j] = false) (fun i => l.length - i) 0 ⟨Nat.zero_le _, fun j h hj => absurd hj (by omega)⟩ ?_
  rintro i ⟨hi, he⟩
  (repeat (first | refine WK ?_ | refine All.i fun X => ?_ | refine AllY.i fun Y => ?_))
  refine AWP.cond rfl (fun hc => ?_) (fun hc => ?_)
  · have h : i < l.length := by simpa using hc
    (repeat (first | (refine AOps.gN ?_; first | (refine AOps.g_callv ?_; first | refine AOps.k1 (h := (hf _ (List.getElem_mem h))) (k := ?_))) | refine WK ?_ | refine All.i fun X => ?_ | refine AllY.i fun Y => ?_))
    refine AWP.cond rfl (fun hd => ?_) (fun hd => ?_)
    · (repeat (first | refine WK ?_ | refine All.i fun X => ?_ | refine AllY.i fun Y => ?_))
      (refine AWP.ret ?_; (repeat (first | refine inB_r ?_ | refine andThen_r ?_)); refine retQ_r ?_); refine Ends.ps ?_
      rw [idxF_some h hd fun j hj => he j (by omega) hj]
    · (repeat (first | refine WK ?_ | refine All.i fun X => ?_ | refine AllY.i fun Y => ?_))
      refine lp_next (i + 1) ⟨h, fun j h1 h2 => ?_⟩
      by_cases e : j = i
      · subst e; exact hd
      · exact he j h1 (by omega)
  · have h : ¬ i < l.length := by simpa using hc
    (repeat (first | refine WK ?_ | refine All.i fun X => ?_ | refine AllY.i fun Y => ?_))
    (refine AWP.ret ?_; (repeat (first | refine inB_r ?_ | refine andThen_r ?_)); refine retQ_r ?_); refine Ends.ps ?_
    rw [idxF_none fun j hj => he j hj (by omega)]
end Go.Proofs.Ytfkppbkipbbmaaa

namespace Go.Proofs.Ytfkppbkipbbmaaa
set_option linter.unusedVariables false
/-- The smaller ones come first. -/
def MonoL {α : Type} (g : α → Int) (l : List α) : Prop := ∀ (a b : Nat) (x y : α), a ≤ b → l[a]? = some x → l[b]? = some y → g y < 0 → g x < 0
/-- All ahead of i are smaller, none from j on. -/
def Spl {α : Type} (g : α → Int) (l : List α) (i j : Nat) : Prop := (∀ (k : Nat) (x : α), k < i → l[k]? = some x → g x < 0) ∧ ∀ (k : Nat) (x : α), j ≤ k → l[k]? = some x → ¬ g x < 0
/-- What a search gives: a place, and whether it is there. -/
structure Found {α : Type} (g : α → Int) (l : List α) (r : Nat × Bool) : Prop where
  le : r.1 ≤ l.length
  eq : r.2 = true ↔ ∃ x, l[r.1]? = some x ∧ g x = 0
  mono : MonoL g l → Spl g l r.1 r.1
theorem Spl.lo {α : Type} {g : α → Int} {l : List α} {i j m : Nat} {y : α} (hM : MonoL g l) (h : Spl g l i j) (hy : l[m]? = some y) (hg : g y < 0) : Spl g l (m + 1) j :=
  ⟨fun k x hk hx => hM k m x y (by omega) hx hy hg, h.2⟩
theorem Spl.hi {α : Type} {g : α → Int} {l : List α} {i j m : Nat} {y : α} (hM : MonoL g l) (h : Spl g l i j) (hy : l[m]? = some y) (hg : ¬ g y < 0) : Spl g l i m :=
  ⟨h.1, fun k x hk hx hx0 => hg (hM m k y x hk hy hx hx0)⟩
end Go.Proofs.Ytfkppbkipbbmaaa

namespace Go.Proofs.Ytfkppbkipbbmaaa
set_option linter.unusedVariables false
theorem find1_ps (x : Item) (e : Ent) : PS Try.prog 116 [itemA false x, .fp (entA e).cells] (bA (decide (x.ent = e))) := by
  have hE := entEql x.ent.n x.ent.gen e.n e.gen
  rw [show (decide (x.ent.n = e.n) && decide (x.ent.gen = e.gen)) = sameE x.ent e from rfl, sameE_dec] at hE
  refine Spec.of (nt := 8) (res := [.tmp 3]) Try.func116 rfl (by kernel_rfl) rfl rfl rfl fun Sf => ?_
  (repeat (first | (refine AOps.gN ?_; first | (refine AOps.g_box ?_; refine AOps.goB ?_) | refine AOps.p (W.eqP _ _ (by kernel_rfl) hE rfl rfl) rfl ?_) | refine WK ?_ | refine All.i fun X => ?_ | refine AllY.i fun Y => ?_))
  (refine AWP.ret ?_; (repeat (first | refine inB_r ?_ | refine andThen_r ?_)); refine retQ_r ?_); refine Ends.ps ?_
  rfl
/-- The index of an entity's item. -/
def findE (l : List Item) (e : Ent) : Int := idxF l fun x => decide (x.ent = e)
theorem find_ps' (w : Wd) (e : Ent) (hl : w.items.length ≤ 4611686018427387904) : PS Try.prog 82 [wdA false w, entA e] (iA (findE w.items e)) := by
  have h := indexFuncT_ps w.items 116 [.fp (entA e).cells] (fun x => decide (x.ent = e)) rfl hl (fun x _ => find1_ps x e)
  refine Spec.of (nt := 9) (res := [.tmp 4]) Try.func82 rfl (by kernel_rfl) rfl rfl rfl fun Sf => ?_
  (repeat refine WF ?_); refine AWP.region ?_; (repeat (first | (refine AOps.gN ?_; first | (refine AOps.g_box ?_; refine AOps.goB ?_)) | refine WO ?_ | refine All.i fun X => ?_ | refine AllY.i fun Y => ?_)); refine AOps.nil ?_; (repeat refine WN ?_)
  (repeat (first | (refine AOps.gN ?_; first | (refine AOps.g_callf ?_; first | refine AOps.c2 (h := (h ..)) (k := ?_))) | refine WK ?_ | refine All.i fun X => ?_ | refine AllY.i fun Y => ?_))
  (refine AWP.ret ?_; (repeat (first | refine inB_r ?_ | refine andThen_r ?_)); refine retQ_r ?_); refine Ends.ps ?_
  rfl
theorem at1_ps (c : Comp) (k : Int) : PS Try.prog 118 [compA false c, iA k] (iA (cmpI c.kind k)) := by
  refine Spec.of (nt := 9) (res := [.tmp 4]) Try.func118 rfl (by kernel_rfl) rfl rfl rfl fun Sf => ?_
  (repeat (first | (refine AOps.gN ?_; first | (refine AOps.g_callf ?_; first | refine AOps.c2 (h := (compare_ps c.kind k)) (k := ?_)) | (refine AOps.g_box ?_; refine AOps.goB ?_)) | refine WK ?_ | refine All.i fun X => ?_ | refine AllY.i fun Y => ?_))
  (refine AWP.ret ?_; (repeat (first | refine inB_r ?_ | refine andThen_r ?_)); refine retQ_r ?_); refine Ends.ps ?_
  rfl
set_option maxHeartbeats 1000000 in
theorem searchK_sp (l : List Comp) (t : AV) (f : FuncId) (cap : List AV) (g : Comp → Int) (t0 : Int) (ht : t = iA t0) (hs : st1s cap = true) (hl : l.length ≤ 4611686018427387904) (hf : ∀ x ∈ l, PS Try.prog f (compA false x :: t :: cap) (iA (g x))) :
    Spec Try.prog 117 [compsA false false l, t, .fn f cap] [] fun r S' => ∃ b, Found g l b ∧ r = .tup [iA b.1, bA b.2] ∧ S' = [] := by
  subst ht
  refine Spec.of (nt := 49) (res := [.tmp 6, .tmp 7]) Try.func117 rfl (by kernel_rfl) rfl rfl rfl fun Sf => ?_
  have hlm : (l.map (compA false)).length = l.length := List.length_map _
  (repeat (first | refine WK ?_ | refine All.i fun X => ?_ | refine AllY.i fun Y => ?_))
  refine AWP.lp2 (fun (i j : Nat) => ⟨[(0, compsA false false l), (1, iA t0), (2, .fn f cap), (8, iA (l.map (compA false)).length), (9, iA i), (10, iA j)], Sf⟩) (fun i j => i ≤ j ∧ j ≤ l.length ∧ (MonoL g l → Spl g l i j)) (fun i j => j - i) 0 (l.map (compA false)).length ⟨Nat.zero_le _, by omega, fun _ => ⟨fun k x h => absurd h (by omega), fun k x h hx => by have := (List.getElem?_eq_some_iff.1 hx).1; omega⟩⟩ ?_
  rintro i j ⟨hij, hjn, hmono⟩
  (repeat (first | refine WK ?_ | refine All.i fun X => ?_ | refine AllY.i fun Y => ?_))
  refine AWP.cond rfl (fun hc => ?_) (fun hc => ?_)
  · have h : i < j := by rw [decide_eq_true_eq] at hc; omega
    have hmid : ((i : Int) + j).fdiv (2 ^ 1) = (((i + j) / 2 : Nat) : Int) := by
      rw [Int.fdiv_eq_ediv_of_nonneg _ (by decide)]; omega
    have hw1 : IntKind.u64.wrap ((i : Int) + j) = i + j := by rw [IntKind.wrap_u64]; omega
    have hw2 : IntKind.i64.wrap (((i : Int) + j).fdiv (2 ^ 1)) = ((i : Int) + j).fdiv (2 ^ 1) := by
      rw [IntKind.wrap_i64, hmid]; omega
    (repeat refine WF ?_); refine AWP.region ?_; (repeat (first | (refine AOps.gN ?_; first | refine AOps.p (W.conv .i64 .u64 (by kernel_rfl) (by kernel_rfl) rfl hw1) rfl ?_ | refine AOps.p (W.shr 1 rfl rfl rfl (by decide)) rfl ?_ | refine AOps.p (W.conv .u64 .i64 (by kernel_rfl) (by kernel_rfl) rfl hw2) rfl ?_) | refine WO ?_ | refine All.i fun X => ?_ | refine AllY.i fun Y => ?_)); refine AOps.nil ?_; (repeat refine WN ?_)
    rw [hmid]
    obtain ⟨m, hm⟩ : ∃ m, (i + j) / 2 = m := ⟨_, rfl⟩
    rw [hm]
    have hml : m < l.length := by omega
    obtain ⟨y, hy⟩ : ∃ y, l[m] = y := ⟨_, rfl⟩
    have hya : l[m]? = some y := by rw [List.getElem?_eq_getElem hml, hy]
    have hat : (l.map (compA false))[m]? = some (compA false y) := by rw [List.getElem?_map, hya]; rfl
    have hfy := hf y (by rw [← hy]; exact List.getElem_mem hml)
    (repeat refine WF ?_); refine AWP.region ?_; (repeat (first | (refine AOps.gN ?_; first | (refine AOps.g_callv ?_; first | refine AOps.k2 (h := (hfy ..)) (k := ?_))) | refine WO ?_ | refine All.i fun X => ?_ | refine AllY.i fun Y => ?_)); refine AOps.nil ?_; (repeat refine WN ?_)
    refine AWP.cond rfl (fun he => ?_) (fun he => ?_)
    · have he : g y < 0 := by simpa using he
      (repeat (first | refine WK ?_ | refine All.i fun X => ?_ | refine AllY.i fun Y => ?_))
      refine lp_next2 (m + 1) j ⟨by omega, hjn, fun hM => (hmono hM).lo hM hya he⟩
    · have he : ¬ g y < 0 := by simpa using he
      (repeat (first | refine WK ?_ | refine All.i fun X => ?_ | refine AllY.i fun Y => ?_))
      refine lp_next2 i m ⟨by omega, by omega, fun hM => (hmono hM).hi hM hya he⟩
  · have h : i = j := by rw [decide_eq_false_iff_not] at hc; omega
    subst h
    by_cases hin : i < l.length
    · have hil : i < l.length := by omega
      have g1 : decide ((i : Int) < (l.map (compA false)).length) = true := decide_eq_true (by omega)
      obtain ⟨y, hy⟩ : ∃ y, l[i] = y := ⟨_, rfl⟩
      have hya : l[i]? = some y := by rw [List.getElem?_eq_getElem hil, hy]
      have hat : (l.map (compA false))[i]? = some (compA false y) := by rw [List.getElem?_map, hya]; rfl
      have hfy := hf y (by rw [← hy]; exact List.getElem_mem hil)
      (repeat (first | (refine AOps.gN ?_; first | (refine AOps.g_callv ?_; first | refine AOps.k2 (h := (hfy ..)) (k := ?_))) | refine WK ?_ | refine All.i fun X => ?_ | refine AllY.i fun Y => ?_))
      (refine AWP.ret ?_; (repeat (first | refine inB_r ?_ | refine andThen_r ?_)); refine retQ_r ?_)
      exact ⟨[iA i, bA (decide (g y = 0))], [iA i, bA (decide (g y = 0))], _, [], .cons (.tmp rfl) rfl (.cons (.tmp rfl) rfl .nil), .cons (.cell .same) (.cons (.cell .same) .nil), by exact Sub.f, (i, decide (g y = 0)), ⟨by simp; omega, by simp [hya], hmono⟩, rfl, rfl⟩
    · have g1 : decide ((i : Int) < (l.map (compA false)).length) = false := decide_eq_false (by omega)
      (repeat (first | refine WK ?_ | refine All.i fun X => ?_ | refine AllY.i fun Y => ?_))
      (refine AWP.ret ?_; (repeat (first | refine inB_r ?_ | refine andThen_r ?_)); refine retQ_r ?_)
      exact ⟨[iA i, bA false], [iA i, bA false], _, [], .cons (.tmp rfl) rfl (.cons (.tmp rfl) rfl .nil), .cons (.cell .same) (.cons (.cell .same) .nil), by exact Sub.f, (i, false), ⟨by simp; omega, by simp [List.getElem?_eq_none (show l.length ≤ i by omega)], hmono⟩, rfl, rfl⟩
theorem at_sp (l : List Comp) (k : Int) (hl : l.length ≤ 4611686018427387904) : Spec Try.prog 83 [compsA false false l, iA k] [] fun r S' => ∃ b, Found (fun c : Comp => cmpI c.kind k) l b ∧ r = .tup [iA b.1, bA b.2] ∧ S' = [] := by
  have h := searchK_sp l (iA k) 118 [] (fun c => cmpI c.kind k) k rfl rfl hl (fun x _ => at1_ps x k)
  refine Spec.of (nt := 11) (res := [.tmp 4, .tmp 5]) Try.func83 rfl (by kernel_rfl) rfl rfl rfl fun Sf => ?_
  (repeat refine WF ?_); refine AWP.region ?_; (repeat (first | refine WO ?_ | refine All.i fun X => ?_ | refine AllY.i fun Y => ?_)); refine AOps.nil ?_; (repeat refine WN ?_)
  (repeat refine WF ?_); refine AWP.region ?_; (repeat (first | refine WO ?_ | refine All.i fun X => ?_ | refine AllY.i fun Y => ?_))
  refine AOps.e3 (h := h) fun b hb => ?_
  (repeat (first | refine WO ?_ | refine All.i fun X => ?_ | refine AllY.i fun Y => ?_))
  (repeat first | refine AOps.nil ?_ | refine WF ?_)
  (refine AWP.ret ?_; (repeat (first | refine inB_r ?_ | refine andThen_r ?_)); refine retQ_r ?_)
  exact ⟨[iA b.1, bA b.2], [iA b.1, bA b.2], _, [], .cons (.tmp rfl) rfl (.cons (.tmp rfl) rfl .nil), .cons (.cell .same) (.cons (.cell .same) .nil), by exact Sub.f, b, hb, rfl, rfl⟩
end Go.Proofs.Ytfkppbkipbbmaaa

namespace Go.Proofs.Ytfkppbkipbbmaaa
set_option linter.unusedVariables false
/-- Components in increasing order of their kinds. -/
def SortC (l : List Comp) : Prop := l.Pairwise fun a b => a.kind < b.kind
theorem heldFrom_sort {ks : List Kind} : ∀ {l : List Comp} {last : Int}, heldFrom ks last l = true → SortC l ∧ ∀ c ∈ l, last < c.kind ∧ c.kind < ks.length
  | [], _, _ => ⟨.nil, fun c hc => by cases hc⟩
  | c :: l, last, h => by
    rw [heldFrom] at h
    split at h
    · simp only [Bool.and_eq_true, decide_eq_true_eq] at h
      obtain ⟨h1, h2⟩ := heldFrom_sort h.2
      refine ⟨List.pairwise_cons.2 ⟨fun d hd => (h2 d hd).1, h1⟩, fun d hd => ?_⟩
      rcases List.mem_cons.1 hd with rfl | hd
      · exact ⟨h.1.1.1, h.1.1.2⟩
      · exact ⟨by have := (h2 d hd).1; have := h.1.1.1; omega, (h2 d hd).2⟩
    · cases h
theorem cmpI_lt {a b : Int} : cmpI a b < 0 ↔ a < b := by
  unfold cmpI
  split
  · simp; assumption
  · split <;> simp <;> omega
theorem cmpI_eq {a b : Int} : cmpI a b = 0 ↔ a = b := by
  unfold cmpI
  split
  · simp; omega
  · split <;> simp <;> omega
theorem sortC_mono {l : List Comp} (h : SortC l) (k : Int) : MonoL (fun c : Comp => cmpI c.kind k) l := by
  intro a b x y hab hx hy hy0
  rw [cmpI_lt] at hy0 ⊢
  by_cases e : a = b
  · subst e; rw [hx] at hy; cases hy; exact hy0
  · obtain ⟨ha, rfl⟩ := List.getElem?_eq_some_iff.1 hx
    obtain ⟨hb, rfl⟩ := List.getElem?_eq_some_iff.1 hy
    have := List.pairwise_iff_getElem.1 h a b ha hb (by omega)
    omega
/-- What is found in components in order: the one of that kind, or the place for one. -/
theorem found_yes {l : List Comp} {k : Int} {b : Nat × Bool} (h : Found (fun c : Comp => cmpI c.kind k) l b) (hb : b.2 = true) : ∃ c, l[b.1]? = some c ∧ c.kind = k := by
  obtain ⟨c, hc, h0⟩ := h.eq.1 hb
  exact ⟨c, hc, cmpI_eq.1 h0⟩
theorem found_no {l : List Comp} {k : Int} {b : Nat × Bool} (h : Found (fun c : Comp => cmpI c.kind k) l b) (hs : SortC l) (hb : b.2 = false) : ∀ c ∈ l, c.kind ≠ k := by
  intro c hc e
  obtain ⟨j, hj, rfl⟩ := List.getElem_of_mem hc
  obtain ⟨h1, h2⟩ := h.mono (sortC_mono hs k)
  have hne : ¬ ∃ x, l[b.1]? = some x ∧ cmpI x.kind k = 0 := fun hx => by rw [h.eq.2 hx] at hb; cases hb
  have hjb : b.1 ≤ j := by
    rcases Nat.lt_or_ge j b.1 with hlt | hge
    · have := h1 j _ hlt (List.getElem?_eq_getElem hj)
      rw [cmpI_lt] at this; omega
    · exact hge
  have hbl : b.1 < l.length := by omega
  have h3 := h2 b.1 _ (Nat.le_refl _) (List.getElem?_eq_getElem hbl)
  rw [cmpI_lt] at h3
  by_cases e2 : j = b.1
  · subst e2
    exact hne ⟨_, List.getElem?_eq_getElem hj, cmpI_eq.2 e⟩
  · have := List.pairwise_iff_getElem.1 hs b.1 j hbl hj (by omega)
    omega
/-- The component of a kind. -/
def compOf (l : List Comp) (k : Int) : Option Comp := l.find? fun c => decide (c.kind = k)
theorem compOf_yes {l : List Comp} {k : Int} {c : Comp} (hs : SortC l) (hc : c ∈ l) (hk : c.kind = k) : compOf l k = some c := by
  induction l with
  | nil => cases hc
  | cons a l ih =>
    obtain ⟨h1, h2⟩ := List.pairwise_cons.1 hs
    unfold compOf
    rw [List.find?_cons]
    rcases List.mem_cons.1 hc with rfl | hc
    · simp [hk]
    · have : ¬ a.kind = k := by have := h1 c hc; omega
      simp only [this, decide_false]
      exact ih h2 hc
theorem compOf_no {l : List Comp} {k : Int} (h : ∀ c ∈ l, c.kind ≠ k) : compOf l k = none := by
  unfold compOf
  rw [List.find?_eq_none]
  intro c hc
  simpa using h c hc
/-- What world.Get returns. -/
def getOf (w : Wd) (e : Ent) (k : Int) : List Int × Int :=
  if wdErr w ≠ 0 then ([], wdErr w) else match w.items.find? (fun it => decide (it.ent = e)) with
    | none => ([], 4)
    | some it => match compOf it.comps k with
      | none => ([], 4)
      | some c => (c.vals, 0)
theorem findE_none {l : List Item} {e : Ent} (h : findE l e < 0) : l.find? (fun it => decide (it.ent = e)) = none := by
  unfold findE idxF at h
  split at h
  · omega
  · rename_i h2
    rw [List.findIdx?_eq_none_iff] at h2
    rw [List.find?_eq_none]
    intro x hx
    rw [h2 x hx]; simp
theorem findE_some {l : List Item} {e : Ent} {n : Nat} (h : findE l e = n) : ∃ it, l[n]? = some it ∧ l.find? (fun it => decide (it.ent = e)) = some it ∧ it.ent = e := by
  unfold findE idxF at h
  split at h
  · rename_i i h2
    have : i = n := by omega
    subst this
    obtain ⟨hi, h3, h4⟩ := List.findIdx?_eq_some_iff_getElem.1 h2
    refine ⟨l[i], List.getElem?_eq_getElem hi, ?_, by simpa using h3⟩
    rw [List.find?_eq_some_iff_getElem]
    exact ⟨h3, i, hi, rfl, fun j hj => by simpa using h4 j hj⟩
  · omega
theorem items_held {ks : List Kind} {gens : List Int} : ∀ {l : List Item} {last : Int}, itemsFrom ks gens last l = true → ∀ it ∈ l, heldOf ks it.comps = true
  | [], _, _, it, hit => by cases hit
  | x :: l, last, h, it, hit => by
    rw [itemsFrom] at h
    split at h
    · simp only [Bool.and_eq_true] at h
      rcases List.mem_cons.1 hit with rfl | hit
      · exact h.1.2
      · exact items_held h.2 it hit
    · cases h
theorem wd_held {w : Wd} (h : wdErr w = 0) : ∀ it ∈ w.items, heldOf w.kinds it.comps = true := by
  unfold wdErr at h
  split at h
  · exact absurd h ‹_›
  · split at h
    · cases h
    · split at h
      · cases h
      · split at h
        · cases h
        · rename_i hi
          exact items_held (by simpa using hi)
theorem wd_sort {w : Wd} (h : wdErr w = 0) : ∀ it ∈ w.items, SortC it.comps := fun it hit => (heldFrom_sort (wd_held h it hit)).1
theorem get_ps (w : Wd) (e : Ent) (k : Int) (hw : WdL w) : PS Try.prog 46 [wdA false w, entA e, iA k] (.tup [intsA true (getOf w e k).1, iA (getOf w e k).2]) := by
  have hck := check_ps' w hw.gens hw.items.1 (fun it hit => (hw.items.2 it hit).1)
  have hfd := find_ps' w e (by have := hw.items.1; omega)
  obtain ⟨r, hr⟩ : ∃ r, getOf w e k = r := ⟨_, rfl⟩
  rw [hr]
  unfold getOf at hr
  obtain ⟨we, hwe⟩ : ∃ we, wdErr w = we := ⟨_, rfl⟩
  rw [hwe] at hck hr
  refine Spec.of (nt := 46) (res := [.tmp 6, .tmp 7]) Try.func46 rfl (by kernel_rfl) rfl rfl rfl fun Sf => ?_
  (repeat refine WF ?_); refine AWP.region ?_; (repeat (first | (refine AOps.gN ?_; first | (refine AOps.g_box ?_; refine AOps.goB ?_)) | refine WO ?_ | refine All.i fun X => ?_ | refine AllY.i fun Y => ?_)); refine AOps.nil ?_; (repeat refine WN ?_)
  (repeat refine WF ?_); refine AWP.region ?_; (repeat (first | (refine AOps.gN ?_; first | (refine AOps.g_callf ?_; first | refine AOps.c1 (h := (hck ..)) (k := ?_))) | refine WO ?_ | refine All.i fun X => ?_ | refine AllY.i fun Y => ?_)); refine AOps.nil ?_; (repeat refine WN ?_)
  (repeat (first | refine WK ?_ | refine All.i fun X => ?_ | refine AllY.i fun Y => ?_))
  refine AWP.cond rfl (fun hd => ?_) (fun hd => ?_)
  · have hd : we ≠ 0 := by simpa using hd
    rw [if_pos hd] at hr
    subst hr
    (repeat (first | refine WK ?_ | refine All.i fun X => ?_ | refine AllY.i fun Y => ?_))
    (refine AWP.ret ?_; (repeat (first | refine inB_r ?_ | refine andThen_r ?_)); refine retQ_r ?_)
    exact ⟨[.prim (.slice none 0 0), iA we], [intsA true [], iA we], _, [], .cons (.tmp rfl) rfl (.cons (.tmp rfl) rfl .nil), .cons (.cell .nil) (.cons (.cell .same) .nil), by exact Sub.f, rfl, rfl⟩
  have hd : we = 0 := by simpa using hd
  rw [if_neg (by simp [hd])] at hr
  have hsort := wd_sort (hwe.trans hd)
  (repeat refine WF ?_); refine AWP.region ?_; (repeat (first | (refine AOps.gN ?_; first | (refine AOps.g_callf ?_; first | refine AOps.c2 (h := (hfd ..)) (k := ?_))) | refine WO ?_ | refine All.i fun X => ?_ | refine AllY.i fun Y => ?_)); refine AOps.nil ?_; (repeat refine WN ?_)
  (repeat (first | refine WK ?_ | refine All.i fun X => ?_ | refine AllY.i fun Y => ?_))
  refine AWP.cond rfl (fun hg => ?_) (fun hg => ?_)
  · have hg : findE w.items e < 0 := by simpa using hg
    rw [findE_none hg] at hr
    subst hr
    (repeat (first | refine WK ?_ | refine All.i fun X => ?_ | refine AllY.i fun Y => ?_))
    (refine AWP.ret ?_; (repeat (first | refine inB_r ?_ | refine andThen_r ?_)); refine retQ_r ?_)
    exact ⟨[.prim (.slice none 0 0), iA 4], [intsA true [], iA 4], _, [], .cons (.tmp rfl) rfl (.cons (.tmp rfl) rfl .nil), .cons (.cell .nil) (.cons (.cell .same) .nil), by exact Sub.f, rfl, rfl⟩
  obtain ⟨n, hn⟩ : ∃ n : Nat, findE w.items e = n := ⟨(findE w.items e).toNat, by have : ¬ findE w.items e < 0 := by simpa using hg
                                                                                  omega⟩
  rw [hn]
  obtain ⟨⟨en, cs⟩, hit, hfi, hen⟩ := findE_some hn
  rw [hfi] at hr
  dsimp only at hr
  have hmem := List.mem_of_getElem? hit
  have hcl := hw.items.2 _ hmem
  have hsc := hsort _ hmem
  dsimp only at hcl hsc
  have hat : (w.items.map (itemA false))[n]? = some (itemA false ⟨en, cs⟩) := by rw [List.getElem?_map, hit]; rfl
  have hap := at_sp cs k (by have := hcl.1; omega)
  (repeat first | refine AOps.nil ?_ | refine WF ?_)
  (repeat refine WF ?_); refine AWP.region ?_; (repeat (first | refine WO ?_ | refine All.i fun X => ?_ | refine AllY.i fun Y => ?_))
  refine AOps.e2 (h := hap) fun b hb => ?_
  obtain ⟨bi, bb⟩ := b
  cases bb
  · have hno := found_no hb hsc rfl
    rw [compOf_no hno] at hr
    subst hr
    dsimp only
    (repeat (first | refine WO ?_ | refine All.i fun X => ?_ | refine AllY.i fun Y => ?_))
    (repeat first | refine AOps.nil ?_ | refine WF ?_)
    (repeat (first | refine WK ?_ | refine All.i fun X => ?_ | refine AllY.i fun Y => ?_))
    refine AWP.cond_t rfl rfl ?_
    (repeat (first | refine WK ?_ | refine All.i fun X => ?_ | refine AllY.i fun Y => ?_))
    (refine AWP.ret ?_; (repeat (first | refine inB_r ?_ | refine andThen_r ?_)); refine retQ_r ?_)
    exact ⟨[.prim (.slice none 0 0), iA 4], [intsA true [], iA 4], _, [], .cons (.tmp rfl) rfl (.cons (.tmp rfl) rfl .nil), .cons (.cell .nil) (.cons (.cell .same) .nil), by exact Sub.f, rfl, rfl⟩
  · obtain ⟨c, hc, hck'⟩ := found_yes hb rfl
    dsimp only at hc
    have hcm := List.mem_of_getElem? hc
    rw [compOf_yes hsc hcm hck'] at hr
    subst hr
    obtain ⟨ckd, cv⟩ := c
    have hvl := hcl.2 _ hcm
    dsimp only at hvl
    have hat2 : (cs.map (compA false))[bi]? = some (compA false ⟨ckd, cv⟩) := by rw [List.getElem?_map, hc]; rfl
    have hcn := cloneI_ps cv (by omega)
    dsimp only
    (repeat (first | refine WO ?_ | refine All.i fun X => ?_ | refine AllY.i fun Y => ?_))
    (repeat first | refine AOps.nil ?_ | refine WF ?_)
    (repeat (first | refine WK ?_ | refine All.i fun X => ?_ | refine AllY.i fun Y => ?_))
    refine AWP.cond_f rfl rfl ?_
    (repeat (first | (refine AOps.gN ?_; first | (refine AOps.g_callf ?_; first | refine AOps.t1 (h := hcn) fun Y => ?_)) | refine WK ?_ | refine All.i fun X => ?_ | refine AllY.i fun Y => ?_))
    (refine AWP.ret ?_; (repeat (first | refine inB_r ?_ | refine andThen_r ?_)); refine retQ_r ?_)
    exact ⟨[.sl Y 0 (cv.map iA).length, iA 0], [intsA true cv, iA 0], _, [], .cons (.tmp rfl) rfl (.cons (.tmp rfl) rfl .nil), .cons (.cell (.sl (p := 0) .here rfl)) (.cons (.cell .same) .nil), by exact Sub.f, rfl, rfl⟩
end Go.Proofs.Ytfkppbkipbbmaaa

namespace Go.Proofs.Ytfkppbkipbbmaaa
set_option linter.unusedVariables false
def nameI (s : List UInt8) : List Int := (s.length : Int) :: s.map fun b => (b.toNat : Int)
abbrev outO (l : List Int) : AO := .row 22 1 [intsA true l]
theorem nameI_at {s : List UInt8} {i : Nat} (h : i < s.length) : (nameI s).take (i + 2) = (nameI s).take (i + 1) ++ [((s.getD i 0).toNat : Int)] := by
  have hn : i + 1 < (nameI s).length := by simp [nameI]; omega
  rw [List.take_succ_eq_append_getElem hn]
  congr 2
  simp [nameI, List.getD_eq_getElem?_getD, h]
theorem intsName_po (X : Nat) (l : List Int) (s : List UInt8) (hl : (l ++ nameI s).length * 8 ≤ 140737488351232) : PO Try.prog 84 [sA s, .ptr X 0 0] X (outO l) (.tup []) (outO (l ++ nameI s)) := by
  refine Spec.of (nt := 22) (res := []) Try.func84 rfl (by kernel_rfl) rfl rfl rfl fun Sf => ?_
  have hnl : (nameI s).length = s.length + 1 := by simp [nameI]
  rw [List.length_append, hnl] at hl
  refine AWP.thawIn .here (fun Y => .head .here) fun K => ?_
  have hb : ((l.map iA).length + [iA (s.length : Int)].length) * 8 ≤ 140737488355328 := by simp; omega
  (repeat (first | (refine AOps.gN ?_; first | (refine AOps.g_lit ?_; refine AOps.goL (iA (s.length : Int)) ?_)) | refine WK ?_ | refine All.i fun X => ?_ | refine AllY.i fun Y => ?_))
  refine AWP.lp4 (fun (i K n : Nat) (M : List AV) => ⟨[(0, sA s), (1, .ptr X 0 0), (10, iA s.length), (11, iA i)], (K, .row 3 1 M) :: (X, .row 22 1 [.sl K 0 n]) :: Sf⟩) (fun i _ n M => i ≤ s.length ∧ n = M.length ∧ M = (l ++ (nameI s).take (i + 1)).map iA) (fun i _ _ _ => s.length - i) 0 Y _ _ ⟨Nat.zero_le _, ?_, ?_⟩ ?_
  · simp
  · rw [List.map_append]; rfl
  rintro i K n M ⟨hi, hn, hM⟩
  (repeat (first | refine WK ?_ | refine All.i fun X => ?_ | refine AllY.i fun Y => ?_))
  refine AWP.cond rfl (fun hc => ?_) (fun hc => ?_)
  · have h : i < s.length := by rw [decide_eq_true_eq] at hc; omega
    have hMl : n = l.length + (i + 1) := by rw [hn, hM, List.length_map, List.length_append, List.length_take, hnl]; omega
    have hb : (n + [iA ((s.getD i 0).toNat : Int)].length) * 8 ≤ 140737488355328 := by simp; omega
    (repeat (first | refine WK ?_ | refine All.i fun X => ?_ | refine AllY.i fun Y => ?_))
    refine AWP.rs fun Y => ?_
    have hw : IntKind.i64.wrap ((s.getD i 0).toNat : Int) = ((s.getD i 0).toNat : Int) := wrap_id (by omega) (by have := (s.getD i 0).toNat_lt; omega)
    (repeat refine WF ?_); refine AWP.region_run (by kernel_rfl) (by kernel_rfl) ?_; (repeat (first | (refine RGo.gN ?_; first | refine RGo.p (W.conv .u8 .i64 (by kernel_rfl) (by kernel_rfl) rfl hw) rfl ?_ | (refine RGo.g_lit ?_; refine RGo.goL (iA ((s.getD i 0).toNat : Int)) ?_)) | (refine RGo.gQ ?_; first | refine RGo.p (W.conv .u8 .i64 (by kernel_rfl) (by kernel_rfl) rfl hw) rfl ?_ | (refine RGo.g_lit ?_; refine RGo.goL (iA ((s.getD i 0).toNat : Int)) ?_)) | refine RK ?_ | refine RGo.nil (by kernel_rfl) ?_))
    (repeat (first | refine WK ?_ | refine All.i fun X => ?_ | refine AllY.i fun Y => ?_))
    refine lp_next4 (i + 1) Y _ _ ⟨h, ?_, ?_⟩
    · rw [List.length_append, ← hn]
    · rw [nameI_at h, hM, ← List.append_assoc, List.map_append (l₂ := [_])]; rfl
  · have h : i = s.length := by rw [decide_eq_false_iff_not] at hc; omega
    subst h
    rw [List.take_of_length_le (by omega)] at hM
    subst hM
    refine AWP.closeIn (X := K) .here (.next .here) rfl hn (.head .here) ?_
    (repeat (first | refine WK ?_ | refine All.i fun X => ?_ | refine AllY.i fun Y => ?_))
    refine retQ_n ?_
    exact Ends.void [(X, outO (l ++ nameI s))] ⟨rfl, rfl⟩
def fieldI (f : Field) : List Int := nameI f.name ++ [f.bits, f.low]
def kindI (k : Kind) : List Int := nameI k.name ++ (k.fields.length : Int) :: k.fields.flatMap fieldI
def compI (c : Comp) : List Int := c.kind :: (c.vals.length : Int) :: c.vals
def itemI (it : Item) : List Int := it.ent.n :: it.ent.gen :: (it.comps.length : Int) :: it.comps.flatMap compI
/-- What world.Ints returns. -/
def intsOf (w : Wd) : List Int := (w.kinds.length : Int) :: (w.kinds.flatMap kindI ++ ((w.gens.length : Int) :: (w.gens ++ ((w.items.length : Int) :: w.items.flatMap itemI))))
theorem dropF {α : Type} {f : α → List Int} {l : List α} {i : Nat} {x : α} (h : i < l.length) (e : l[i] = x) : (l.drop i).flatMap f = f x ++ (l.drop (i + 1)).flatMap f := by
  rw [List.drop_eq_getElem_cons h, e, List.flatMap_cons]
theorem bndA {A B R : List Int} (hl : R.length * 8 ≤ 140737488351232) (e : A ++ B = R) : A.length * 8 ≤ 140737488351232 := by
  have : A.length + B.length = R.length := by rw [← e, List.length_append]
  omega
set_option maxHeartbeats 4000000 in
set_option maxRecDepth 4000 in
theorem ints_ps (w : Wd) (hl : (intsOf w).length * 8 ≤ 140737488351232) (hw : WdL w) : PS Try.prog 48 [wdA false w] (intsA true (intsOf w)) := by
  obtain ⟨R, hR⟩ : ∃ R, intsOf w = R := ⟨_, rfl⟩
  have hin := hR
  unfold intsOf at hin
  rw [hR] at hl ⊢
  obtain ⟨ks, gens, items⟩ := w
  obtain ⟨⟨hk0, hk1⟩, hg, ⟨hi0, hi1⟩⟩ := hw
  dsimp only at hin hk0 hk1 hg hi0 hi1
  obtain ⟨tail, htail⟩ : ∃ tail, ((gens.length : Int) :: (gens ++ ((items.length : Int) :: items.flatMap itemI))) = tail := ⟨_, rfl⟩
  rw [htail] at hin
  refine Spec.of (nt := 112) (res := [.tmp 2]) Try.func48 rfl (by kernel_rfl) rfl rfl rfl fun Sf => ?_
  have hkm : (ks.map (kindA false)).length = ks.length := List.length_map _
  have hgm : (gens.map iA).length = gens.length := List.length_map _
  have him : (items.map (itemA false)).length = items.length := List.length_map _
  (repeat refine WF ?_); refine AWP.region ?_; (repeat (first | (refine AOps.gN ?_; first | (refine AOps.g_box ?_; refine AOps.goB ?_)) | refine WO ?_ | refine All.i fun X => ?_ | refine AllY.i fun Y => ?_)); refine AOps.nil ?_; (repeat refine WN ?_)
  refine AWP.rs fun K0 => ?_
  (repeat refine WF ?_); refine AWP.region ?_; (repeat (first | (refine AOps.gN ?_; first | refine AOps.s (W.lit1 (X := K0) (l := [iA ((ks.map (kindA false)).length : Int)]) (by exact rfl) (by exact At.f) (by exact rfl) (by exact .inr rfl) (by decide) (by decide) (by exact rfl)) rfl ?_) | refine WO ?_ | refine All.i fun X => ?_ | refine AllY.i fun Y => ?_)); refine AOps.nil ?_; (repeat refine WN ?_)
  rw [hkm]
  refine AWP.closeIn (X := K0) (Y := X) (.next .here) .here rfl rfl (.head .here) ?_
  (repeat (first | refine WK ?_ | refine All.i fun X => ?_ | refine AllY.i fun Y => ?_))
  refine AWP.lp2 (fun (i : Nat) (L : List Int) => ⟨[(1, .fp (wdA false ⟨ks, gens, items⟩).cells), (3, .ptr X 0 0), (4, .fn 84 [.ptr X 0 0]), (19, kindsA false false ks), (20, iA (ks.map (kindA false)).length), (21, iA i)], (X, outO L) :: Sf⟩) (fun i L => i ≤ ks.length ∧ L ++ ((ks.drop i).flatMap kindI ++ tail) = R) (fun i _ => ks.length - i) 0 [(ks.length : Int)] ⟨Nat.zero_le _, hin⟩ ?_
  rintro i L ⟨hi, he⟩
  (repeat (first | refine WK ?_ | refine All.i fun X => ?_ | refine AllY.i fun Y => ?_))
  refine AWP.cond rfl (fun hc => ?_) (fun hc => ?_)
  · have h : i < ks.length := by rw [decide_eq_true_eq, hkm] at hc; omega
    obtain ⟨⟨kn, kf⟩, hk⟩ : ∃ k, ks[i] = k := ⟨_, rfl⟩
    have hat : (ks.map (kindA false))[i]? = some (kindA false ⟨kn, kf⟩) := by rw [List.getElem?_map, List.getElem?_eq_getElem h, hk]; rfl
    have hkl := hk1 _ (hk ▸ List.getElem_mem h)
    dsimp only at hkl
    rw [dropF h hk, kindI, ← List.append_assoc, ← List.append_assoc, ← List.append_assoc] at he
    have hkfm : (kf.map fieldA).length = kf.length := List.length_map _
    dsimp only at he
    have he1 : (L ++ nameI kn) ++ ([(kf.length : Int)] ++ (kf.flatMap fieldI ++ ((ks.drop (i + 1)).flatMap kindI ++ tail))) = R := by rw [← he]; simp
    have hcn := intsName_po X L kn (bndA hl he1)
    (repeat refine WF ?_); refine AWP.region ?_; (repeat (first | refine WO ?_ | refine All.i fun V => ?_ | refine AllY.i fun Y => ?_)); refine AOps.nil ?_; (repeat refine WN ?_)
    (repeat refine WF ?_); refine AWP.region ?_; (repeat (first | (refine AOps.gN ?_; first | (refine AOps.g_callv ?_; first | refine AOps.zc1 (h := hcn) (hT := .frz) (k := ?_))) | refine WO ?_ | refine All.i fun X => ?_ | refine AllY.i fun Y => ?_)); refine AOps.nil ?_; (repeat refine WN ?_)
    obtain ⟨L1, hL1⟩ : ∃ L1, L ++ nameI kn = L1 := ⟨_, rfl⟩
    rw [hL1] at he1 ⊢
    have he2 : (L1 ++ [(kf.length : Int)]) ++ (kf.flatMap fieldI ++ ((ks.drop (i + 1)).flatMap kindI ++ tail)) = R := by rw [← he1, List.append_assoc]
    refine AWP.thawIn (Y := X) (.next .here) (fun _ => .head .here) fun K => ?_
    have hb : ((L1.map iA).length + ([iA ((kf.map fieldA).length : Int)]).length) * 8 ≤ 140737488355328 := by have := bndA hl he2; simp at this ⊢; omega
    (repeat refine WF ?_); refine AWP.region ?_; (repeat (first | (refine AOps.gN ?_; first | (refine AOps.g_lit ?_; refine AOps.goL (iA (kf.map fieldA).length) ?_)) | refine WO ?_ | refine All.i fun X => ?_ | refine AllY.i fun Y => ?_)); refine AOps.nil ?_; (repeat refine WN ?_)
    have hrow : L1.map iA ++ [iA ((kf.map fieldA).length : Int)] = (L1 ++ [(kf.length : Int)]).map iA := by first | (rw [List.map_append, hkfm]; rfl) | rw [List.map_append, hkfm]
    rw [hrow]
    clear hrow hb
    refine AWP.closeIn (X := Y) (Y := X) .here (.next (.next .here)) rfl (by simp) (.head .here) ?_
    obtain ⟨T2, hT2⟩ : ∃ T2, (ks.drop (i + 1)).flatMap kindI ++ tail = T2 := ⟨_, rfl⟩
    rw [hT2] at he2
    clear he he1 hcn hL1 hin
    (repeat (first | refine WK ?_ | refine All.i fun X => ?_ | refine AllY.i fun Y => ?_))
    refine AWP.lp2 (fun (j : Nat) (L : List Int) => ⟨[(1, .fp (wdA false ⟨ks, gens, items⟩).cells), (3, .ptr X 0 0), (4, .fn 84 [.ptr X 0 0]), (19, kindsA false false ks), (20, iA (ks.map (kindA false)).length), (21, iA i), (36, fieldsA false kf), (37, iA (kf.map fieldA).length), (38, iA j)], (X, outO L) :: Sf⟩) (fun j L => j ≤ kf.length ∧ L ++ ((kf.drop j).flatMap fieldI ++ T2) = R) (fun j _ => kf.length - j) 0 (L1 ++ [(kf.length : Int)]) ⟨Nat.zero_le _, he2⟩ ?_
    clear he2 L1 L
    rintro j L ⟨hj, he⟩
    (repeat (first | refine WK ?_ | refine All.i fun X => ?_ | refine AllY.i fun Y => ?_))
    refine AWP.cond rfl (fun hd => ?_) (fun hd => ?_)
    · have h' : j < kf.length := by rw [decide_eq_true_eq, hkfm] at hd; omega
      obtain ⟨⟨fn, fb, fl⟩, hf⟩ : ∃ f, kf[j] = f := ⟨_, rfl⟩
      have hat2 : (kf.map fieldA)[j]? = some (fieldA ⟨fn, fb, fl⟩) := by rw [List.getElem?_map, List.getElem?_eq_getElem h', hf]; rfl
      rw [dropF h' hf, fieldI] at he
      dsimp only at he
      have he1 : (L ++ nameI fn) ++ ([fb, fl] ++ ((kf.drop (j + 1)).flatMap fieldI ++ T2)) = R := by rw [← he]; simp
      have hcn := intsName_po X L fn (bndA hl he1)
      (repeat refine WF ?_); refine AWP.region ?_; (repeat (first | refine WO ?_ | refine All.i fun V2 => ?_ | refine AllY.i fun Y => ?_)); refine AOps.nil ?_; (repeat refine WN ?_)
      (repeat refine WF ?_); refine AWP.region ?_; (repeat (first | (refine AOps.gN ?_; first | (refine AOps.g_callv ?_; first | refine AOps.zc1 (h := hcn) (hT := .frz) (k := ?_))) | refine WO ?_ | refine All.i fun X => ?_ | refine AllY.i fun Y => ?_)); refine AOps.nil ?_; (repeat refine WN ?_)
      obtain ⟨L1, hL1⟩ : ∃ L1, L ++ nameI fn = L1 := ⟨_, rfl⟩
      rw [hL1] at he1 ⊢
      have he2 : (L1 ++ [fb, fl]) ++ ((kf.drop (j + 1)).flatMap fieldI ++ T2) = R := by rw [← he1, List.append_assoc]
      refine AWP.thawIn (Y := X) (.next .here) (fun _ => .head .here) fun K => ?_
      have hb : ((L1.map iA).length + ([iA fb, iA fl]).length) * 8 ≤ 140737488355328 := by have := bndA hl he2; simp at this ⊢; omega
      (repeat refine WF ?_); refine AWP.region ?_; (repeat (first | refine WO ?_ | refine All.i fun X => ?_ | refine AllY.i fun Y => ?_)); refine AOps.nil ?_; (repeat refine WN ?_)
      have hrow : L1.map iA ++ [iA fb, iA fl] = (L1 ++ [fb, fl]).map iA := by first | (rw [List.map_append]; rfl) | rw [List.map_append]
      rw [hrow]
      clear hrow hb
      refine AWP.closeIn (X := Y) (Y := X) .here (.next (.next .here)) rfl (by simp) (.head .here) ?_
      (repeat (first | refine WK ?_ | refine All.i fun X => ?_ | refine AllY.i fun Y => ?_))
      refine lp_next2 (j + 1) _ ⟨h', he2⟩
    · have h' : j = kf.length := by rw [decide_eq_false_iff_not, hkfm] at hd; omega
      rw [h', List.drop_length] at he
      (repeat (first | refine WK ?_ | refine All.i fun X => ?_ | refine AllY.i fun Y => ?_))
      refine lp_next2 (i + 1) L ⟨h, by rw [hT2]; exact he⟩
  clear hin
  have h : i = ks.length := by rw [decide_eq_false_iff_not, hkm] at hc; omega
  rw [h, List.drop_length, ← htail] at he
  clear h hc hi
  have he2 : (L ++ [(gens.length : Int)]) ++ (gens ++ ((items.length : Int) :: items.flatMap itemI)) = R := by rw [← he]; simp
  (repeat first | refine AOps.nil ?_ | refine WF ?_)
  refine AWP.thawIn (Y := X) .here (fun _ => .head .here) fun K => ?_
  have hb : ((L.map iA).length + ([iA ((gens.map iA).length : Int)]).length) * 8 ≤ 140737488355328 := by have := bndA hl he2; simp at this ⊢; omega
  (repeat refine WF ?_); refine AWP.region ?_; (repeat (first | (refine AOps.gN ?_; first | (refine AOps.g_lit ?_; refine AOps.goL (iA (gens.map iA).length) ?_)) | refine WO ?_ | refine All.i fun X => ?_ | refine AllY.i fun Y => ?_)); refine AOps.nil ?_; (repeat refine WN ?_)
  have hrow : L.map iA ++ [iA ((gens.map iA).length : Int)] = (L ++ [(gens.length : Int)]).map iA := by first | (rw [List.map_append, hgm]; rfl) | rw [List.map_append, hgm]
  rw [hrow]
  clear hrow hb
  refine AWP.closeIn (X := Y) (Y := X) .here (.next .here) rfl (by simp) (.head .here) ?_
  obtain ⟨L1, hL1⟩ : ∃ L1, L ++ [(gens.length : Int)] = L1 := ⟨_, rfl⟩
  rw [hL1] at he2 ⊢
  have he3 : (L1 ++ gens) ++ ((items.length : Int) :: items.flatMap itemI) = R := by rw [← he2, List.append_assoc]
  refine AWP.thawIn (Y := X) (.next .here) (fun _ => .head .here) fun K => ?_
  have hb : ((L1.map iA).length + (gens.map iA).length) * 8 ≤ 140737488355328 := by have := bndA hl he3; simp at this ⊢; omega
  (repeat refine WF ?_); refine AWP.region ?_; (repeat (first | refine WO ?_ | refine All.i fun X => ?_ | refine AllY.i fun Y => ?_)); refine AOps.nil ?_; (repeat refine WN ?_)
  have hrow : L1.map iA ++ gens.map iA = (L1 ++ gens).map iA := by first | (rw [List.map_append]; rfl) | rw [List.map_append]
  rw [hrow]
  clear hrow hb
  refine AWP.closeIn (X := Y) (Y := X) .here (.next (.next .here)) rfl (by simp) (.head .here) ?_
  obtain ⟨L2, hL2⟩ : ∃ L2, L1 ++ gens = L2 := ⟨_, rfl⟩
  rw [hL2] at he3 ⊢
  have he4 : (L2 ++ [(items.length : Int)]) ++ items.flatMap itemI = R := by rw [← he3, List.append_assoc]; rfl
  refine AWP.thawIn (Y := X) (.next (.next .here)) (fun _ => .head .here) fun K => ?_
  have hb : ((L2.map iA).length + ([iA ((items.map (itemA false)).length : Int)]).length) * 8 ≤ 140737488355328 := by have := bndA hl he4; simp at this ⊢; omega
  (repeat refine WF ?_); refine AWP.region ?_; (repeat (first | (refine AOps.gN ?_; first | (refine AOps.g_lit ?_; refine AOps.goL (iA (items.map (itemA false)).length) ?_)) | refine WO ?_ | refine All.i fun X => ?_ | refine AllY.i fun Y => ?_)); refine AOps.nil ?_; (repeat refine WN ?_)
  have hrow : L2.map iA ++ [iA ((items.map (itemA false)).length : Int)] = (L2 ++ [(items.length : Int)]).map iA := by first | (rw [List.map_append, him]; rfl) | rw [List.map_append, him]
  rw [hrow]
  clear hrow hb
  refine AWP.closeIn (X := Y) (Y := X) .here (.next (.next (.next .here))) rfl (by simp) (.head .here) ?_
  clear he he2 he3 hL1 hL2 htail hk0 hk1
  (repeat (first | refine WK ?_ | refine All.i fun X => ?_ | refine AllY.i fun Y => ?_))
  refine AWP.lp2 (fun (i : Nat) (L : List Int) => ⟨[(1, .fp (wdA false ⟨ks, gens, items⟩).cells), (3, .ptr X 0 0), (72, itemsA false false items), (73, iA (items.map (itemA false)).length), (74, iA i)], (X, outO L) :: Sf⟩) (fun i L => i ≤ items.length ∧ L ++ (items.drop i).flatMap itemI = R) (fun i _ => items.length - i) 0 (L2 ++ [(items.length : Int)]) ⟨Nat.zero_le _, he4⟩ ?_
  clear he4 L2 L1 L
  rintro i L ⟨hi, he⟩
  (repeat (first | refine WK ?_ | refine All.i fun X => ?_ | refine AllY.i fun Y => ?_))
  refine AWP.cond rfl (fun hc => ?_) (fun hc => ?_)
  · have h : i < items.length := by rw [decide_eq_true_eq, him] at hc; omega
    obtain ⟨⟨⟨en, eg⟩, cs⟩, hit⟩ : ∃ it, items[i] = it := ⟨_, rfl⟩
    have hat : (items.map (itemA false))[i]? = some (itemA false ⟨⟨en, eg⟩, cs⟩) := by rw [List.getElem?_map, List.getElem?_eq_getElem h, hit]; rfl
    have hcl := hi1 _ (hit ▸ List.getElem_mem h)
    dsimp only at hcl
    obtain ⟨hcl0, hcl1⟩ := hcl
    have hcm : (cs.map (compA false)).length = cs.length := List.length_map _
    rw [dropF h hit, itemI] at he
    dsimp only at he
    have he2 : (L ++ [en, eg, (cs.length : Int)]) ++ (cs.flatMap compI ++ (items.drop (i + 1)).flatMap itemI) = R := by rw [← he]; simp
    (repeat refine WF ?_); refine AWP.region ?_; (repeat (first | refine WO ?_ | refine All.i fun V => ?_ | refine AllY.i fun Y => ?_)); refine AOps.nil ?_; (repeat refine WN ?_)
    refine AWP.thawIn (Y := X) (.next .here) (fun _ => .head .here) fun K => ?_
    have hb : ((L.map iA).length + ([iA en, iA eg, iA ((cs.map (compA false)).length : Int)]).length) * 8 ≤ 140737488355328 := by have := bndA hl he2; simp at this ⊢; omega
    (repeat refine WF ?_); refine AWP.region ?_; (repeat (first | refine WO ?_ | refine All.i fun X => ?_ | refine AllY.i fun Y => ?_)); refine AOps.nil ?_; (repeat refine WN ?_)
    have hrow : L.map iA ++ [iA en, iA eg, iA ((cs.map (compA false)).length : Int)] = (L ++ [en, eg, (cs.length : Int)]).map iA := by first | (rw [List.map_append, hcm]; rfl) | rw [List.map_append, hcm]
    rw [hrow]
    clear hrow hb
    refine AWP.closeIn (X := Y) (Y := X) .here (.next (.next .here)) rfl (by simp) (.head .here) ?_
    obtain ⟨T2, hT2⟩ : ∃ T2, (items.drop (i + 1)).flatMap itemI = T2 := ⟨_, rfl⟩
    rw [hT2] at he2
    (repeat (first | refine WK ?_ | refine All.i fun X => ?_ | refine AllY.i fun Y => ?_))
    refine AWP.lp2 (fun (j : Nat) (L : List Int) => ⟨[(1, .fp (wdA false ⟨ks, gens, items⟩).cells), (3, .ptr X 0 0), (72, itemsA false false items), (73, iA (items.map (itemA false)).length), (74, iA i), (91, compsA false false cs), (92, iA (cs.map (compA false)).length), (93, iA j)], (X, outO L) :: Sf⟩) (fun j L => j ≤ cs.length ∧ L ++ ((cs.drop j).flatMap compI ++ T2) = R) (fun j _ => cs.length - j) 0 _ ⟨Nat.zero_le _, he2⟩ ?_
    clear he2 he L
    rintro j L ⟨hj, he⟩
    (repeat (first | refine WK ?_ | refine All.i fun X => ?_ | refine AllY.i fun Y => ?_))
    refine AWP.cond rfl (fun hd => ?_) (fun hd => ?_)
    · have h' : j < cs.length := by rw [decide_eq_true_eq, hcm] at hd; omega
      obtain ⟨⟨ck, cv⟩, hf⟩ : ∃ c, cs[j] = c := ⟨_, rfl⟩
      have hat2 : (cs.map (compA false))[j]? = some (compA false ⟨ck, cv⟩) := by rw [List.getElem?_map, List.getElem?_eq_getElem h', hf]; rfl
      have hvm : (cv.map iA).length = cv.length := List.length_map _
      rw [dropF h' hf, compI] at he
      dsimp only at he
      have he2 : (L ++ [ck, (cv.length : Int)]) ++ (cv ++ ((cs.drop (j + 1)).flatMap compI ++ T2)) = R := by rw [← he]; simp
      (repeat refine WF ?_); refine AWP.region ?_; (repeat (first | refine WO ?_ | refine All.i fun V2 => ?_ | refine AllY.i fun Y => ?_)); refine AOps.nil ?_; (repeat refine WN ?_)
      refine AWP.thawIn (Y := X) (.next .here) (fun _ => .head .here) fun K => ?_
      have hb : ((L.map iA).length + ([iA ck, iA ((cv.map iA).length : Int)]).length) * 8 ≤ 140737488355328 := by have := bndA hl he2; simp at this ⊢; omega
      (repeat refine WF ?_); refine AWP.region ?_; (repeat (first | refine WO ?_ | refine All.i fun X => ?_ | refine AllY.i fun Y => ?_)); refine AOps.nil ?_; (repeat refine WN ?_)
      have hrow : L.map iA ++ [iA ck, iA ((cv.map iA).length : Int)] = (L ++ [ck, (cv.length : Int)]).map iA := by first | (rw [List.map_append, hvm]; rfl) | rw [List.map_append, hvm]
      rw [hrow]
      clear hrow hb
      refine AWP.closeIn (X := Y) (Y := X) .here (.next (.next .here)) rfl (by simp) (.head .here) ?_
      obtain ⟨L1, hL1⟩ : ∃ L1, L ++ [ck, (cv.length : Int)] = L1 := ⟨_, rfl⟩
      rw [hL1] at he2 ⊢
      have he3 : (L1 ++ cv) ++ ((cs.drop (j + 1)).flatMap compI ++ T2) = R := by rw [← he2, List.append_assoc]
      refine AWP.thawIn (Y := X) (.next (.next .here)) (fun _ => .head .here) fun K => ?_
      have hb : ((L1.map iA).length + (cv.map iA).length) * 8 ≤ 140737488355328 := by have := bndA hl he3; simp at this ⊢; omega
      (repeat refine WF ?_); refine AWP.region ?_; (repeat (first | refine WO ?_ | refine All.i fun X => ?_ | refine AllY.i fun Y => ?_)); refine AOps.nil ?_; (repeat refine WN ?_)
      have hrow : L1.map iA ++ cv.map iA = (L1 ++ cv).map iA := by first | (rw [List.map_append]; rfl) | rw [List.map_append]
      rw [hrow]
      clear hrow hb
      refine AWP.closeIn (X := Y) (Y := X) .here (.next (.next (.next .here))) rfl (by simp) (.head .here) ?_
      (repeat (first | refine WK ?_ | refine All.i fun X => ?_ | refine AllY.i fun Y => ?_))
      refine lp_next2 (j + 1) _ ⟨h', he3⟩
    · have h' : j = cs.length := by rw [decide_eq_false_iff_not, hcm] at hd; omega
      rw [h', List.drop_length] at he
      (repeat (first | refine WK ?_ | refine All.i fun X => ?_ | refine AllY.i fun Y => ?_))
      refine lp_next2 (i + 1) L ⟨h, by rw [hT2]; exact he⟩
  · have h : i = items.length := by rw [decide_eq_false_iff_not, him] at hc; omega
    rw [h, List.drop_length] at he
    have he : L = R := by simpa using he
    subst he
    refine AWP.thawIn (Y := X) .here (fun _ => .head .here) fun K => ?_
    (repeat (first | refine WK ?_ | refine All.i fun X => ?_ | refine AllY.i fun Y => ?_))
    (refine AWP.ret ?_; (repeat (first | refine inB_r ?_ | refine andThen_r ?_)); refine retQ_r ?_)
    exact ⟨[.sl K 0 (L.map iA).length], [intsA true L], _, [], .cons (.tmp rfl) rfl .nil, .cons (.cell (.sl (p := 0) .here rfl)) .nil, by exact Sub.f, rfl, rfl⟩
end Go.Proofs.Ytfkppbkipbbmaaa

namespace Go.Proofs.Ytfkppbkipbbmaaa
set_option linter.unusedVariables false
theorem base_wdL : WdL baseWd := by
  refine ⟨⟨by decide, ?_⟩, by decide, ⟨by decide, ?_⟩⟩
  · intro k hk
    rw [List.mem_singleton.1 hk]; decide
  · intro it hit
    rw [List.mem_singleton.1 hit]
    refine ⟨by decide, fun c hc => ?_⟩
    rw [List.mem_singleton.1 hc]; decide
theorem base_get : getOf baseWd ⟨0, 0⟩ 0 = ([9], 0) := by decide
set_option maxRecDepth 4000 in
theorem begun_ps : PS Try.prog 12 [] (bA true) := by
  have hg := get_ps baseWd ⟨0, 0⟩ 0 base_wdL
  rw [base_get] at hg
  have he : PS Try.prog 20 [intsA false [9], intsA false [9]] (bA true) := equalI_ps [9] [9] (by decide)
  have hi := ints_ps baseWd (by decide) base_wdL
  have hs := same_ps baseWd baseWd base_wdL
  rw [decide_eq_true rfl] at hs
  obtain ⟨R, hR⟩ : ∃ R, intsOf baseWd = R := ⟨_, rfl⟩
  have hRl : (0 : Int) < R.length := by rw [← hR]; decide
  rw [hR] at hi
  have hlen : decide ((0 : Int) < (R.map iA).length) = true := decide_eq_true (by rw [List.length_map]; exact hRl)
  refine Spec.of (nt := 27) (res := [.tmp 0]) Try.func12 rfl (by kernel_rfl) rfl rfl rfl fun Sf => ?_
  (repeat refine WF ?_); refine AWP.region ?_; (repeat (first | refine WO ?_ | refine All.i fun X => ?_ | refine AllY.i fun Y => ?_)); refine AOps.nil ?_; (repeat refine WN ?_)
  (repeat refine WF ?_); refine AWP.region ?_; (repeat (first | (refine AOps.gN ?_; first | (refine AOps.g_callf ?_; first | refine AOps.c0 (h := (base_ps ..)) (k := ?_) | refine AOps.c3 (h := (hg ..)) (k := ?_))) | refine WO ?_ | refine All.i fun X => ?_ | refine AllY.i fun Y => ?_)); refine AOps.nil ?_; (repeat refine WN ?_)
  (repeat (first | (refine AOps.gN ?_; first | (refine AOps.g_callf ?_; first | refine AOps.c2 (h := (he ..)) (k := ?_) | refine AOps.c0 (h := (base_ps ..)) (k := ?_) | refine AOps.c1 (h := (hi ..)) (k := ?_) | refine AOps.c2 (h := (hs ..)) (k := ?_))) | refine WK ?_ | refine All.i fun X => ?_ | refine AllY.i fun Y => ?_))
  (refine AWP.ret ?_; (repeat (first | refine inB_r ?_ | refine andThen_r ?_)); refine retQ_r ?_); refine Ends.ps ?_
  rfl
end Go.Proofs.Ytfkppbkipbbmaaa

namespace Go.Proofs.Ytfkppbkipbbmaaa
set_option linter.unusedVariables false
def lifeM : Move := ⟨1, [108, 105, 102, 101], [], [], 0, ⟨[], 0, 0⟩, ⟨[], []⟩⟩
theorem life_world : worldOf baseWd [lifeM] = (⟨[], [0], [⟨⟨0, 0⟩, []⟩]⟩, 0) := by decide
theorem life_dn : Dns [wdA false baseWd, .lst false 46 10 [.agg [iA 1, sA [108, 105, 102, 101], sA [], sA [], iA 0, sA [], iA 0, iA 0, sA [], .prim (.slice none 0 0)]]] [wdA false baseWd, movesA false false [lifeM]] :=
  .cons .same (.cons (.lst (.cons (.agg (.cons .same (.cons .same (.cons .same (.cons .same (.cons .same (.cons .same (.cons .same (.cons .same (.cons .same (.cons .nil .nil))))))))))) .nil)) .nil)
set_option maxRecDepth 8000 in
theorem dropped_ps : PS Try.prog 14 [] (bA true) := by
  have hw := world_mps baseWd [lifeM] base_wdL ⟨by simp, fun m hm => by rw [List.mem_singleton.1 hm]; decide⟩
  rw [life_world] at hw
  have hw2 := hw.argD life_dn
  refine Spec.of (nt := 24) (res := [.tmp 0]) Try.func14 rfl (by kernel_rfl) rfl rfl rfl fun Sf => ?_
  (repeat (first | (refine AOps.gN ?_; first | (refine AOps.g_callf ?_; first | refine AOps.c0 (h := (base_ps ..)) (k := ?_) | refine AOps.c2 (h := (hw2 ..)) (k := ?_)) | (refine AOps.g_lit ?_; refine AOps.goL (.agg [iA 1, sA [108, 105, 102, 101], sA [], sA [], iA 0, sA [], iA 0, iA 0, sA [], .prim (.slice none 0 0)]) ?_)) | refine WK ?_ | refine All.i fun V => ?_ | refine AllY.i fun Y => ?_))
  (refine AWP.ret ?_; (repeat (first | refine inB_r ?_ | refine andThen_r ?_)); refine retQ_r ?_); refine Ends.ps ?_
  rfl
theorem names1_ps (m : Move) : PS Try.prog 17 [moveA false m] (bA (!decide (m.act = 2))) := by
  refine Spec.of (nt := 6) (res := [.tmp 2]) Try.func17 rfl (by kernel_rfl) rfl rfl rfl fun Sf => ?_
  (repeat (first | (refine AOps.gN ?_; first | (refine AOps.g_box ?_; refine AOps.goB ?_)) | refine WK ?_ | refine All.i fun X => ?_ | refine AllY.i fun Y => ?_))
  (refine AWP.ret ?_; (repeat (first | refine inB_r ?_ | refine andThen_r ?_)); refine retQ_r ?_); refine Ends.ps ?_
  exact congrArg bA (decide_not ..)
end Go.Proofs.Ytfkppbkipbbmaaa

namespace Go.Proofs.Ytfkppbkipbbmaaa
set_option linter.unusedVariables false
theorem equalFuncK_ps (a b : List Kind) (f : FuncId) (cap : List AV) (p : Kind → Kind → Bool) (hs : st1s cap = true) (hl : a.length ≤ 4611686018427387904) (hf : ∀ x ∈ a, ∀ y ∈ b, PS Try.prog f ((kindA false) x :: (kindA false) y :: cap) (bA (p x y))) :
    PS Try.prog 62 [.lst false 44 2 (a.map (kindA false)), .lst false 44 2 (b.map (kindA false)), .fn f cap] (bA (eqF p a b)) := by
  refine Spec.of (nt := 32) (res := [.tmp 6]) Try.func62 rfl (by kernel_rfl) rfl rfl rfl fun Sf => ?_
  (repeat (first | refine WK ?_ | refine All.i fun X => ?_ | refine AllY.i fun Y => ?_))
  refine AWP.cond rfl (fun hb => ?_) (fun hb => ?_)
  · have hb : a.length ≠ b.length := by simp at hb; omega
    (repeat (first | refine WK ?_ | refine All.i fun X => ?_ | refine AllY.i fun Y => ?_))
    (refine AWP.ret ?_; (repeat (first | refine inB_r ?_ | refine andThen_r ?_)); refine retQ_r ?_); refine Ends.ps ?_
    rw [eqF_len hb]
  · have hb : a.length = b.length := by simp at hb; omega
    (repeat (first | refine WK ?_ | refine All.i fun X => ?_ | refine AllY.i fun Y => ?_))
    refine AWP.lp (fun i : Nat => ⟨[(0, .lst false 44 2 (a.map (kindA false))), (1, .lst false 44 2 (b.map (kindA false))), (2, .fn f cap), (15, .lst false 44 2 (a.map (kindA false))), (16, iA (a.map (kindA false)).length), (17, iA i)], Sf⟩) (fun i => i ≤ a.length ∧ ∀ j (h : j < a.length), j < i → p a[j] (b[j]'(by omega)) = true) (fun i => a.length - i) 0 ⟨Nat.zero_le _, fun j h hj => absurd hj (by omega)⟩ ?_
    rintro i ⟨hi, he⟩
    (repeat (first | refine WK ?_ | refine All.i fun X => ?_ | refine AllY.i fun Y => ?_))
    refine AWP.cond rfl (fun hc => ?_) (fun hc => ?_)
    · have h : i < a.length := by simpa using hc
      have h' : i < b.length := by omega
      (repeat (first | (refine AOps.gN ?_; first | (refine AOps.g_callv ?_; first | refine AOps.k2 (h := (hf _ (List.getElem_mem h) _ (List.getElem_mem h'))) (k := ?_))) | refine WK ?_ | refine All.i fun X => ?_ | refine AllY.i fun Y => ?_))
      refine AWP.cond rfl (fun hd => ?_) (fun hd => ?_)
      · have hd : p a[i] b[i] = false := by simpa using hd
        (repeat (first | refine WK ?_ | refine All.i fun X => ?_ | refine AllY.i fun Y => ?_))
        (refine AWP.ret ?_; (repeat (first | refine inB_r ?_ | refine andThen_r ?_)); refine retQ_r ?_); refine Ends.ps ?_
        rw [eqF_no hb h hd]
      · have hd : p a[i] b[i] = true := by simpa using hd
        (repeat (first | refine WK ?_ | refine All.i fun X => ?_ | refine AllY.i fun Y => ?_))
        refine lp_next (i + 1) ⟨h, fun j h1 h2 => ?_⟩
        by_cases e : j = i
        · subst e; exact hd
        · exact he j h1 (by omega)
    · have h : ¬ i < a.length := by simpa using hc
      (repeat (first | refine WK ?_ | refine All.i fun X => ?_ | refine AllY.i fun Y => ?_))
      (refine AWP.ret ?_; (repeat (first | refine inB_r ?_ | refine andThen_r ?_)); refine retQ_r ?_); refine Ends.ps ?_
      rw [eqF_yes hb fun j hj => he j hj (by omega)]
end Go.Proofs.Ytfkppbkipbbmaaa

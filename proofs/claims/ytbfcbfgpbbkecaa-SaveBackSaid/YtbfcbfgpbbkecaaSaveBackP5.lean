/-
  Part 5 of the texts under the law SaveBack: the layer of abstract values, walks and plain laws. Conditions: those that each theorem names.
-/
import Derived.Below
import Derived.Test.YtbfcbfgpbbkecaaSaveBackP4
namespace Go.Proofs.Ytbfcbfgpbbkecaa
set_option linter.unusedVariables false
theorem fitOf_len8 {k : Kind} {vals : List Int} (h : (fitOf k vals).2 = 0) : (fitOf k vals).1.length = vals.length ∧ vals.length ≤ 8 := by
  unfold fitOf at h ⊢
  split
  · rename_i h1; rw [if_pos h1] at h; exact absurd h h1
  · rename_i h1
    rw [if_neg h1] at h
    split
    · rename_i h2; rw [if_pos h2] at h; cases h
    · rename_i h2; have := oneErr_len (Decidable.not_not.1 h1); simp; omega
theorem holds_ps (k : Kind) (vals : List Int) : PS Try.prog 58 [kindA false k, intsA false vals] (bA (holdsOf k vals)) := by
  refine Spec.of (nt := 31) (res := [.tmp 4]) Try.func58 rfl (by kernel_rfl) rfl rfl rfl fun Sf => ?_
  have hfr : (AV.tup [intsA true (fitOf k vals).1, iA (fitOf k vals).2]).frz = .tup [intsA false (fitOf k vals).1, iA (fitOf k vals).2] := by
    show AV.tup [(intsA true (fitOf k vals).1).frz, _] = _
    rw [intsA_frz]
    rfl
  (repeat (first | (refine AOps.gN ?_; first | refine AOps.p (W.callF2 rfl rfl (fit_ps _ _) rfl hfr) rfl ?_) | refine WK ?_ | refine All.i fun X => ?_ | refine AllY.i fun Y => ?_))
  refine AWP.cond rfl (fun hb => ?_) (fun hb => ?_)
  · have hb : (fitOf k vals).2 ≠ 0 := by simpa using hb
    (repeat (first | refine WK ?_ | refine All.i fun X => ?_ | refine AllY.i fun Y => ?_))
    (refine AWP.ret ?_; (repeat (first | refine inB_r ?_ | refine andThen_r ?_)); refine retQ_r ?_)
    refine Ends.plain rfl rfl (by exact Sub.f) ⟨?_, rfl⟩
    simp [holdsOf, hb]
  have hb : (fitOf k vals).2 = 0 := by simpa using hb
  obtain ⟨hlen, h8⟩ := fitOf_len8 hb
  obtain ⟨fl, hfl⟩ : ∃ fl, fl = (fitOf k vals).1 := ⟨_, rfl⟩
  rw [← hfl] at hlen
  rw [show holdsOf k vals = decide (fl = vals) from by simp [holdsOf, hb, hfl]]
  rw [← hfl]
  clear hfr
  (repeat (first | refine AWP.loopR (fun i : Nat => ⟨[(1, intsA false vals), (5, intsA false fl), (17, iA (fl.map iA).length), (18, iA i)], Sf⟩) (fun i => i ≤ vals.length ∧ ∀ j (h : j < vals.length), j < i → fl[j]'(by omega) = vals[j]) (fun i => vals.length - i) 0 ⟨Nat.zero_le _, fun j h hj => absurd hj (by omega)⟩ ⟨.cons rfl (.cons rfl (.cons rfl (.cons rfl .nil))), by exact Sub.f⟩ ?_ | refine WK ?_ | refine All.i fun X => ?_ | refine AllY.i fun Y => ?_))
  rintro i ⟨hi, he⟩
  (repeat (first | refine WK ?_ | refine All.i fun X => ?_ | refine AllY.i fun Y => ?_))
  refine AWP.cond rfl (fun hc => ?_) (fun hc => ?_)
  · have h : i < fl.length := by rw [decide_eq_true_eq, List.length_map] at hc; omega
    have h' : i < vals.length := by omega
    (repeat (first | refine WK ?_ | refine All.i fun X => ?_ | refine AllY.i fun Y => ?_))
    (repeat refine WF ?_); refine AWP.region_run (by kernel_rfl) (by kernel_rfl) ?_; (repeat (first | (refine RGo.gN ?_; first | refine RGo.p (W.idxL rfl rfl rfl (map_at _ h)) rfl ?_ | refine RGo.p (W.idxL rfl rfl rfl (map_at _ h')) rfl ?_) | (refine RGo.gQ ?_; first | refine RGo.p (W.idxL rfl rfl rfl (map_at _ h)) rfl ?_ | refine RGo.p (W.idxL rfl rfl rfl (map_at _ h')) rfl ?_) | refine RK ?_ | refine RGo.nil (by kernel_rfl) ?_))
    (repeat (first | refine WK ?_ | refine All.i fun X => ?_ | refine AllY.i fun Y => ?_))
    refine AWP.cond rfl (fun hd => ?_) (fun hd => ?_)
    · have hd : fl[i] ≠ vals[i] := by simpa using hd
      (repeat (first | refine WK ?_ | refine All.i fun X => ?_ | refine AllY.i fun Y => ?_))
      (refine AWP.ret ?_; (repeat (first | refine inB_r ?_ | refine andThen_r ?_)); refine retQ_r ?_)
      refine Ends.plain rfl rfl (by exact Sub.f) ⟨?_, rfl⟩
      rw [decide_eq_false (fun e => hd (by subst e; rfl))]
    · have hd : fl[i] = vals[i] := by simpa using hd
      (repeat (first | refine WK ?_ | refine All.i fun X => ?_ | refine AllY.i fun Y => ?_))
      refine ⟨i + 1, ⟨by omega, fun j h1 h2 => ?_⟩, by omega, .cons rfl (.cons rfl (.cons rfl (.cons rfl .nil))), by exact Sub.f⟩
      by_cases e : j = i
      · subst e; exact hd
      · exact he j h1 (by omega)
  · have h : ¬ i < fl.length := by rw [decide_eq_false_iff_not, List.length_map] at hc; omega
    (repeat (first | refine WK ?_ | refine All.i fun X => ?_ | refine AllY.i fun Y => ?_))
    (refine AWP.ret ?_; (repeat (first | refine inB_r ?_ | refine andThen_r ?_)); refine retQ_r ?_)
    refine Ends.plain rfl rfl (by exact Sub.f) ⟨?_, rfl⟩
    rw [decide_eq_true (List.ext_getElem hlen fun j h1 h2 => he j h2 (by omega))]
end Go.Proofs.Ytbfcbfgpbbkecaa

namespace Go.Proofs.Ytbfcbfgpbbkecaa
set_option linter.unusedVariables false
theorem find_ps (l : List Kind) (name : List UInt8) (hl : l.length ≤ 1099511627776) : PS Try.prog 56 [kindsA false false l, sA name] (iA (findKind l name)) := by
  refine Spec.of (nt := 20) (res := [.tmp 4]) Try.func56 rfl (by kernel_rfl) rfl rfl rfl fun Sf => ?_
  (repeat (first | refine AWP.loopR (fun i : Nat => ⟨[(1, sA name), (7, kindsA false false l), (8, iA (l.map (kindA false)).length), (9, iA i)], Sf⟩) (fun i => i ≤ l.length ∧ ∀ j (h : j < l.length), j < i → l[j].name ≠ name) (fun i => l.length - i) 0 ⟨by omega, by omega⟩ ⟨.cons rfl (.cons rfl (.cons rfl (.cons rfl .nil))), List.Sublist.refl _⟩ ?_ | refine WK ?_ | refine All.i fun X => ?_ | refine AllY.i fun Y => ?_))
  rintro i ⟨hi, hn⟩
  (repeat (first | refine WK ?_ | refine All.i fun X => ?_ | refine AllY.i fun Y => ?_))
  refine AWP.cond rfl (fun hb => ?_) (fun hb => ?_)
  · have h : i < l.length := by simpa using hb
    (repeat (first | (refine AOps.gN ?_; first | refine AOps.p (W.idxL rfl rfl rfl (map_at _ h)) rfl ?_) | refine WK ?_ | refine All.i fun X => ?_ | refine AllY.i fun Y => ?_))
    refine AWP.cond rfl (fun hc => ?_) (fun hc => ?_)
    · have hc : l[i].name = name := by simpa using hc
      (repeat (first | refine WK ?_ | refine All.i fun X => ?_ | refine AllY.i fun Y => ?_))
      (refine AWP.ret ?_; (repeat (first | refine inB_r ?_ | refine andThen_r ?_)); refine retQ_r ?_)
      refine Ends.plain rfl rfl (by exact Sub.f) ⟨?_, rfl⟩
      rw [findKind_some h hc fun j hj => hn j (by omega) hj]
    · have hc : l[i].name ≠ name := by simpa using hc
      (repeat (first | refine WK ?_ | refine All.i fun X => ?_ | refine AllY.i fun Y => ?_))
      refine ⟨i + 1, ⟨by omega, fun j hj hji => ?_⟩, by omega, .cons rfl (.cons rfl (.cons rfl (.cons rfl .nil))), by exact Sub.f⟩
      by_cases e : j = i
      · subst e; exact hc
      · exact hn j hj (by omega)
  · have h : ¬ i < l.length := by simpa using hb
    (repeat (first | refine WK ?_ | refine All.i fun X => ?_ | refine AllY.i fun Y => ?_))
    (refine AWP.ret ?_; (repeat (first | refine inB_r ?_ | refine andThen_r ?_)); refine retQ_r ?_)
    refine Ends.plain rfl rfl (by exact Sub.f) ⟨?_, rfl⟩
    rw [findKind_none fun j hj => hn j hj (by omega)]
end Go.Proofs.Ytbfcbfgpbbkecaa

namespace Go.Proofs.Ytbfcbfgpbbkecaa
set_option linter.unusedVariables false
theorem check_ps (l : List Kind) : PS Try.prog 38 [kindsA false false l] (iA (checkErr l)) := by
  refine Spec.of (nt := 29) (res := [.tmp 2]) Try.func38 rfl (by kernel_rfl) rfl rfl rfl fun Sf => ?_
  (repeat (first | refine WK ?_ | refine All.i fun X => ?_ | refine AllY.i fun Y => ?_))
  refine AWP.cond rfl (fun hb => ?_) (fun hb => ?_)
  · (repeat (first | refine WK ?_ | refine All.i fun X => ?_ | refine AllY.i fun Y => ?_))
    (refine AWP.ret ?_; (repeat (first | refine inB_r ?_ | refine andThen_r ?_)); refine retQ_r ?_)
    refine Ends.plain rfl rfl (by exact Sub.f) ⟨?_, rfl⟩
    have hb : 16 < l.length := by rw [decide_eq_true_eq, List.length_map] at hb; omega
    rw [show checkErr l = 2 from by simp [checkErr, hb]]
  have hl : l.length ≤ 16 := by rw [decide_eq_false_iff_not, List.length_map] at hb; omega
  have e1 : checkErr l = kindsErr [] l := by simp [checkErr]; omega
  (repeat (first | refine AWP.loopR (fun i : Nat => ⟨[(0, kindsA false false l), (9, kindsA false false l), (10, iA (l.map (kindA false)).length), (11, iA i)], Sf⟩) (fun i => i ≤ l.length ∧ kindsErr [] l = kindsErr (l.take i) (l.drop i)) (fun i => l.length - i) 0 ⟨by omega, rfl⟩ ⟨.cons rfl (.cons rfl (.cons rfl (.cons rfl .nil))), by exact Sub.f⟩ ?_ | refine WK ?_ | refine All.i fun X => ?_ | refine AllY.i fun Y => ?_))
  rintro i ⟨hi, he⟩
  (repeat (first | refine WK ?_ | refine All.i fun X => ?_ | refine AllY.i fun Y => ?_))
  refine AWP.cond rfl (fun hb => ?_) (fun hb => ?_)
  · have h : i < l.length := by simpa using hb
    (repeat (first | (refine AOps.gN ?_; first | refine AOps.p (W.idxL rfl rfl rfl (map_at _ h)) rfl ?_ | refine AOps.p (W.call1 rfl (one_ps _) rfl) rfl ?_) | refine WK ?_ | refine All.i fun X => ?_ | refine AllY.i fun Y => ?_))
    refine AWP.cond rfl (fun hc => ?_) (fun hc => ?_)
    · have hc : oneErr l[i] ≠ 0 := by simpa using hc
      (repeat (first | refine WK ?_ | refine All.i fun X => ?_ | refine AllY.i fun Y => ?_))
      (refine AWP.ret ?_; (repeat (first | refine inB_r ?_ | refine andThen_r ?_)); refine retQ_r ?_)
      refine Ends.plain rfl rfl (by exact Sub.f) ⟨?_, rfl⟩
      rw [e1, he, kindsErr_at h, kindsErr_bad hc]
      rfl
    have hc : oneErr l[i] = 0 := by simpa using hc
    have hf : PS Try.prog 56 [.lst false 81 2 ((l.map (kindA false)).take i), sA l[i].name] (iA (findKind (l.take i) l[i].name)) := by
      have := find_ps (l.take i) l[i].name (by simp; omega)
      simpa only [kindsA, List.map_take] using this
    (repeat (first | refine WK ?_ | refine All.i fun X => ?_ | refine AllY.i fun Y => ?_))
    (repeat refine WF ?_); refine AWP.region_run (by kernel_rfl) (by kernel_rfl) ?_; (repeat (first | (refine RGo.gN ?_; first | refine RGo.p (W.hiL rfl rfl rfl (by simp; omega)) rfl ?_ | refine RGo.p (W.call2 rfl rfl hf rfl) rfl ?_) | (refine RGo.gQ ?_; first | refine RGo.p (W.hiL rfl rfl rfl (by simp; omega)) rfl ?_ | refine RGo.p (W.call2 rfl rfl hf rfl) rfl ?_) | refine RK ?_ | refine RGo.nil (by kernel_rfl) ?_))
    (repeat (first | refine WK ?_ | refine All.i fun X => ?_ | refine AllY.i fun Y => ?_))
    refine AWP.cond rfl (fun hd => ?_) (fun hd => ?_)
    · have hd : 0 ≤ findKind (l.take i) l[i].name := by simpa using hd
      (repeat (first | refine WK ?_ | refine All.i fun X => ?_ | refine AllY.i fun Y => ?_))
      (refine AWP.ret ?_; (repeat (first | refine inB_r ?_ | refine andThen_r ?_)); refine retQ_r ?_)
      refine Ends.plain rfl rfl (by exact Sub.f) ⟨?_, rfl⟩
      rw [e1, he, kindsErr_at h, kindsErr_twice hc hd]
    · have hd : findKind (l.take i) l[i].name < 0 := by simpa using hd
      (repeat (first | refine WK ?_ | refine All.i fun X => ?_ | refine AllY.i fun Y => ?_))
      refine ⟨i + 1, ⟨by omega, ?_⟩, by omega, .cons rfl (.cons rfl (.cons rfl (.cons rfl .nil))), by exact Sub.f⟩
      rw [he, kindsErr_at h, kindsErr_next hc hd, List.take_add_one, List.getElem?_eq_getElem h]
      rfl
  · have h : ¬ i < l.length := by simpa using hb
    (repeat (first | refine WK ?_ | refine All.i fun X => ?_ | refine AllY.i fun Y => ?_))
    (refine AWP.ret ?_; (repeat (first | refine inB_r ?_ | refine andThen_r ?_)); refine retQ_r ?_)
    refine Ends.plain rfl rfl (by exact Sub.f) ⟨?_, rfl⟩
    rw [e1, he, kindsErr_end (by omega)]
end Go.Proofs.Ytbfcbfgpbbkecaa

namespace Go.Proofs.Ytbfcbfgpbbkecaa
set_option linter.unusedSimpArgs false
set_option linter.unusedVariables false
/-- Are the components those of an item, all kinds above 'last'? -/
def heldFrom (ks : List Kind) : Int → List Comp → Bool
  | _, [] => true
  | last, c :: l => match ks[c.kind.toNat]? with
    | some k => decide (last < c.kind) && decide (c.kind < ks.length) && holdsOf k c.vals && heldFrom ks c.kind l
    | none => false
def heldOf (ks : List Kind) (l : List Comp) : Bool := heldFrom ks (-1) l
theorem heldFrom_at {ks : List Kind} {l : List Comp} {i : Nat} {last : Int} {k : Kind} {c : Comp} (h : i < l.length) (hc : l[i] = c) (hk : ks[c.kind.toNat]? = some k) : heldFrom ks last (l.drop i) = (decide (last < c.kind) && decide (c.kind < ks.length) && holdsOf k c.vals && heldFrom ks c.kind (l.drop (i + 1))) := by
  rw [List.drop_eq_getElem_cons h, heldFrom, hc, hk]
theorem heldFrom_no {ks : List Kind} {l : List Comp} {i : Nat} {last : Int} {c : Comp} (h : i < l.length) (hc : l[i] = c) (hn : c.kind ≤ last ∨ (ks.length : Int) ≤ c.kind) : heldFrom ks last (l.drop i) = false := by
  rw [List.drop_eq_getElem_cons h, heldFrom, hc]
  split
  · rcases hn with hn | hn
    · rw [decide_eq_false (by omega)]; rfl
    · rw [decide_eq_false (p := c.kind < _) (by omega)]; simp
  · rfl
/-- Are the items those of a world, all slots above 'last'? -/
def itemsFrom (ks : List Kind) (gens : List Int) : Int → List Item → Bool
  | _, [] => true
  | last, it :: l => match gens[it.ent.n.toNat]? with
    | some g => decide (last < it.ent.n) && decide (it.ent.n < gens.length) && decide (it.ent.gen = g) && !decide (it.ent.gen = 1073741824) && heldOf ks it.comps && itemsFrom ks gens it.ent.n l
    | none => false
theorem itemsFrom_at {ks : List Kind} {gens : List Int} {l : List Item} {i : Nat} {last : Int} {g : Int} {it : Item} (h : i < l.length) (hc : l[i] = it) (hk : gens[it.ent.n.toNat]? = some g) : itemsFrom ks gens last (l.drop i) = (decide (last < it.ent.n) && decide (it.ent.n < gens.length) && decide (it.ent.gen = g) && !decide (it.ent.gen = 1073741824) && heldOf ks it.comps && itemsFrom ks gens it.ent.n (l.drop (i + 1))) := by
  rw [List.drop_eq_getElem_cons h, itemsFrom, hc, hk]
theorem itemsFrom_no {ks : List Kind} {gens : List Int} {l : List Item} {i : Nat} {last : Int} {it : Item} (h : i < l.length) (hc : l[i] = it) (hn : it.ent.n ≤ last ∨ (gens.length : Int) ≤ it.ent.n) : itemsFrom ks gens last (l.drop i) = false := by
  rw [List.drop_eq_getElem_cons h, itemsFrom, hc]
  split
  · rcases hn with hn | hn
    · rw [decide_eq_false (by omega)]; rfl
    · rw [decide_eq_false (p := it.ent.n < _) (by omega)]; simp
  · rfl
def gensOk (l : List Int) : Bool := l.all fun g => decide (0 ≤ g) && decide (g ≤ 1073741824)
/-- What world.Check returns. -/
def wdErr (w : Wd) : Int :=
  if checkErr w.kinds ≠ 0 then checkErr w.kinds
  else if 256 < w.gens.length ∨ w.gens.length < w.items.length then 2
  else if gensOk w.gens = false then 3
  else if itemsFrom w.kinds w.gens (-1) w.items = false then 3 else 0
end Go.Proofs.Ytbfcbfgpbbkecaa

namespace Go.Proofs.Ytbfcbfgpbbkecaa
set_option linter.unusedVariables false
theorem held_ps (ks : List Kind) (l : List Comp) (hl : l.length ≤ 1099511627776) : PS Try.prog 41 [kindsA false false ks, compsA false false l] (bA (heldOf ks l)) := by
  refine Spec.of (nt := 39) (res := [.tmp 4]) Try.func41 rfl (by kernel_rfl) rfl rfl rfl fun Sf => ?_
  have hlm : (l.map (compA false)).length = l.length := List.length_map _
  (repeat (first | refine WK ?_ | refine All.i fun X => ?_ | refine AllY.i fun Y => ?_))
  refine AWP.lp2 (fun (i : Nat) (last : Int) => ⟨[(0, kindsA false false ks), (5, iA last), (8, compsA false false l), (9, iA (l.map (compA false)).length), (10, iA i)], Sf⟩) (fun i last => i ≤ l.length ∧ -1 ≤ last ∧ heldFrom ks last (l.drop i) = heldOf ks l) (fun i _ => l.length - i) 0 (-1) ⟨Nat.zero_le _, by omega, rfl⟩ ?_
  rintro i last ⟨hi, hla, he⟩
  (repeat (first | refine WK ?_ | refine All.i fun X => ?_ | refine AllY.i fun Y => ?_))
  refine AWP.cond rfl (fun hc => ?_) (fun hc => ?_)
  · have h : i < l.length := by rw [decide_eq_true_eq, hlm] at hc; omega
    obtain ⟨⟨ck, cv⟩, hcc⟩ : ∃ c, l[i] = c := ⟨_, rfl⟩
    have hat : (l.map (compA false))[i]? = some (compA false ⟨ck, cv⟩) := by rw [List.getElem?_map, List.getElem?_eq_getElem h, hcc]; rfl
    (repeat (first | refine WK ?_ | refine All.i fun X => ?_ | refine AllY.i fun Y => ?_))
    rcases Bool.eq_false_or_eq_true (decide (ck ≤ last)) with g1 | g1
    · (repeat refine WF ?_); refine AWP.region_run (by kernel_rfl) (by kernel_rfl) ?_; (repeat (first | (refine RGo.gQ ?_; first | refine RGo.goNU ?_ | refine RGo.goNV ?_) | refine RK ?_ | refine RGo.nil (by kernel_rfl) ?_))
      refine AWP.cond_t rfl (by first | rfl | assumption) ?_
      (repeat (first | refine WK ?_ | refine All.i fun X => ?_ | refine AllY.i fun Y => ?_))
      (refine AWP.ret ?_; (repeat (first | refine inB_r ?_ | refine andThen_r ?_)); refine retQ_r ?_); refine Ends.ps ?_
      rw [← he, heldFrom_no h hcc (.inl (by simpa using g1))]
    · obtain ⟨n, rfl⟩ : ∃ n : Nat, ck = n := ⟨ck.toNat, by rw [decide_eq_false_iff_not] at g1; omega⟩
      rcases Bool.eq_false_or_eq_true (decide (((ks.map (kindA false)).length : Int) ≤ n)) with g2 | g2
      · (repeat refine WF ?_); refine AWP.region_run (by kernel_rfl) (by kernel_rfl) ?_; (repeat (first | (refine RGo.gQ ?_; first | refine RGo.goNU ?_ | refine RGo.goNV ?_) | refine RK ?_ | refine RGo.nil (by kernel_rfl) ?_))
        refine AWP.cond_t rfl (by first | rfl | assumption) ?_
        (repeat (first | refine WK ?_ | refine All.i fun X => ?_ | refine AllY.i fun Y => ?_))
        (refine AWP.ret ?_; (repeat (first | refine inB_r ?_ | refine andThen_r ?_)); refine retQ_r ?_); refine Ends.ps ?_
        rw [← he, heldFrom_no h hcc (.inr (by rw [decide_eq_true_eq, List.length_map] at g2; exact g2))]
      · have hkl : n < ks.length := by rw [decide_eq_false_iff_not, List.length_map] at g2; omega
        obtain ⟨k, hk⟩ : ∃ k, ks[n] = k := ⟨_, rfl⟩
        have hka : ks[n]? = some k := by rw [List.getElem?_eq_getElem hkl, hk]
        have hat2 : (ks.map (kindA false))[n]? = some (kindA false k) := by rw [List.getElem?_map, hka]; rfl
        have hst := heldFrom_at (last := last) (k := k) h hcc hka
        dsimp only at hst
        rw [decide_eq_true (by rw [decide_eq_false_iff_not] at g1; omega), decide_eq_true (p := (n : Int) < _) (by omega), Bool.true_and, Bool.true_and, he] at hst
        have hh := holds_ps k cv
        obtain ⟨b, hb⟩ : ∃ b, holdsOf k cv = b := ⟨_, rfl⟩
        rw [hb] at hst hh
        cases b
        · (repeat refine WF ?_); refine AWP.region_run (by kernel_rfl) (by kernel_rfl) ?_; (repeat (first | (refine RGo.gN ?_; first | (refine RGo.g_callf ?_; first | refine RGo.c2 (h := (hh ..)) (k := ?_))) | (refine RGo.gQ ?_; first | (refine RGo.g_callf ?_; first | refine RGo.c2 (h := (hh ..)) (k := ?_))) | refine RK ?_ | refine RGo.nil (by kernel_rfl) ?_))
          refine AWP.cond_t rfl (by first | rfl | assumption) ?_
          (repeat (first | refine WK ?_ | refine All.i fun X => ?_ | refine AllY.i fun Y => ?_))
          (refine AWP.ret ?_; (repeat (first | refine inB_r ?_ | refine andThen_r ?_)); refine retQ_r ?_); refine Ends.ps ?_
          rw [hst]; rfl
        · (repeat refine WF ?_); refine AWP.region_run (by kernel_rfl) (by kernel_rfl) ?_; (repeat (first | (refine RGo.gN ?_; first | (refine RGo.g_callf ?_; first | refine RGo.c2 (h := (hh ..)) (k := ?_))) | (refine RGo.gQ ?_; first | (refine RGo.g_callf ?_; first | refine RGo.c2 (h := (hh ..)) (k := ?_))) | refine RK ?_ | refine RGo.nil (by kernel_rfl) ?_))
          refine AWP.cond_f rfl (by first | rfl | assumption) ?_
          (repeat (first | refine WK ?_ | refine All.i fun X => ?_ | refine AllY.i fun Y => ?_))
          refine lp_next2 (i + 1) n ⟨h, by omega, hst.symm⟩
  · have h : i = l.length := by rw [decide_eq_false_iff_not, hlm] at hc; omega
    subst h
    (repeat (first | refine WK ?_ | refine All.i fun X => ?_ | refine AllY.i fun Y => ?_))
    (refine AWP.ret ?_; (repeat (first | refine inB_r ?_ | refine andThen_r ?_)); refine retQ_r ?_); refine Ends.ps ?_
    rw [← he, List.drop_length]; rfl
set_option maxHeartbeats 2000000 in
theorem check_ps' (w : Wd) (hg : w.gens.length ≤ 1099511627776) (hi : w.items.length ≤ 1099511627776) (hc : ∀ it ∈ w.items, it.comps.length ≤ 1099511627776) : PS Try.prog 23 [wdA false w] (iA (wdErr w)) := by
  have hck := check_ps w.kinds
  obtain ⟨ke, hke⟩ : ∃ ke, checkErr w.kinds = ke := ⟨_, rfl⟩
  obtain ⟨we, hwe⟩ : ∃ we, wdErr w = we := ⟨_, rfl⟩
  rw [hwe]
  unfold wdErr at hwe
  rw [hke] at hck hwe
  obtain ⟨ks, gens, items⟩ := w
  dsimp only at hwe hg hi hc hck hke
  refine Spec.of (nt := 94) (res := [.tmp 2]) Try.func23 rfl (by kernel_rfl) rfl rfl rfl fun Sf => ?_
  have hgm : (gens.map iA).length = gens.length := List.length_map _
  have him : (items.map (itemA false)).length = items.length := List.length_map _
  (repeat refine WF ?_); refine AWP.region ?_; (repeat (first | (refine AOps.gN ?_; first | (refine AOps.g_box ?_; refine AOps.goB ?_)) | refine WO ?_ | refine All.i fun X => ?_ | refine AllY.i fun Y => ?_)); refine AOps.nil ?_; (repeat refine WN ?_)
  (repeat refine WF ?_); refine AWP.region ?_; (repeat (first | (refine AOps.gN ?_; first | (refine AOps.g_callf ?_; first | refine AOps.c1 (h := (hck ..)) (k := ?_))) | refine WO ?_ | refine All.i fun X => ?_ | refine AllY.i fun Y => ?_)); refine AOps.nil ?_; (repeat refine WN ?_)
  (repeat (first | refine WK ?_ | refine All.i fun X => ?_ | refine AllY.i fun Y => ?_))
  refine AWP.cond rfl (fun hd => ?_) (fun hd => ?_)
  · have hd : ke ≠ 0 := by simpa using hd
    (repeat (first | refine WK ?_ | refine All.i fun X => ?_ | refine AllY.i fun Y => ?_))
    (refine AWP.ret ?_; (repeat (first | refine inB_r ?_ | refine andThen_r ?_)); refine retQ_r ?_); refine Ends.ps ?_
    rw [← hwe, if_pos hd]
  have hd : ke = 0 := by simpa using hd
  rw [if_neg (by simp [hd])] at hwe
  rcases Bool.eq_false_or_eq_true (decide (256 < ((gens.map iA).length : Int))) with g1 | g1
  · (repeat (first | refine WK ?_ | refine All.i fun X => ?_ | refine AllY.i fun Y => ?_))
    refine AWP.cond_t rfl (by first | rfl | assumption) ?_
    (repeat (first | refine WK ?_ | refine All.i fun X => ?_ | refine AllY.i fun Y => ?_))
    (refine AWP.ret ?_; (repeat (first | refine inB_r ?_ | refine andThen_r ?_)); refine retQ_r ?_); refine Ends.ps ?_
    rw [← hwe, if_pos (.inl (by rw [decide_eq_true_eq, hgm] at g1; omega))]
  rcases Bool.eq_false_or_eq_true (decide (((gens.map iA).length : Int) < (items.map (itemA false)).length)) with g2 | g2
  · (repeat (first | refine WK ?_ | refine All.i fun X => ?_ | refine AllY.i fun Y => ?_))
    refine AWP.cond_t rfl (by first | rfl | assumption) ?_
    (repeat (first | refine WK ?_ | refine All.i fun X => ?_ | refine AllY.i fun Y => ?_))
    (refine AWP.ret ?_; (repeat (first | refine inB_r ?_ | refine andThen_r ?_)); refine retQ_r ?_); refine Ends.ps ?_
    rw [← hwe, if_pos (.inr (by rw [decide_eq_true_eq, hgm, him] at g2; omega))]
  (repeat (first | refine WK ?_ | refine All.i fun X => ?_ | refine AllY.i fun Y => ?_))
  refine AWP.cond_f rfl (by first | rfl | assumption) ?_
  rw [if_neg (by rw [decide_eq_false_iff_not, hgm] at g1; rw [decide_eq_false_iff_not, hgm, him] at g2; omega)] at hwe
  (repeat (first | refine WK ?_ | refine All.i fun X => ?_ | refine AllY.i fun Y => ?_))
  refine AWP.lp (fun i : Nat => ⟨[(1, .fp (wdA false ⟨ks, gens, items⟩).cells), (29, intsA false gens), (30, iA (gens.map iA).length), (31, iA i)], Sf⟩) (fun i => i ≤ gens.length ∧ ∀ j (h : j < gens.length), j < i → 0 ≤ gens[j] ∧ gens[j] ≤ 1073741824) (fun i => gens.length - i) 0 ⟨Nat.zero_le _, fun j h hj => absurd hj (by omega)⟩ ?_
  rintro i ⟨hil, hgo⟩
  (repeat (first | refine WK ?_ | refine All.i fun X => ?_ | refine AllY.i fun Y => ?_))
  refine AWP.cond rfl (fun he => ?_) (fun he => ?_)
  · have h : i < gens.length := by rw [decide_eq_true_eq, hgm] at he; omega
    obtain ⟨x, hx⟩ : ∃ x, gens[i] = x := ⟨_, rfl⟩
    have hat : (gens.map iA)[i]? = some (iA x) := by rw [List.getElem?_map, List.getElem?_eq_getElem h, hx]; rfl
    have hbad : ¬ (0 ≤ x ∧ x ≤ 1073741824) → gensOk gens = false := fun hn => by
      unfold gensOk
      rw [List.all_eq_false]
      refine ⟨x, hx ▸ List.getElem_mem h, ?_⟩
      simp only [Bool.and_eq_true, decide_eq_true_eq]
      exact hn
    (repeat (first | refine WK ?_ | refine All.i fun X => ?_ | refine AllY.i fun Y => ?_))
    refine AWP.cond rfl (fun hf => ?_) (fun hf => ?_)
    · have hf : ¬ (0 ≤ x ∧ x ≤ 1073741824) := by simp at hf; omega
      (repeat (first | refine WK ?_ | refine All.i fun X => ?_ | refine AllY.i fun Y => ?_))
      (refine AWP.ret ?_; (repeat (first | refine inB_r ?_ | refine andThen_r ?_)); refine retQ_r ?_); refine Ends.ps ?_
      rw [← hwe, if_pos (hbad hf)]
    · have hf : 0 ≤ x ∧ x ≤ 1073741824 := by simp at hf; omega
      (repeat (first | refine WK ?_ | refine All.i fun X => ?_ | refine AllY.i fun Y => ?_))
      refine lp_next (i + 1) ⟨h, fun j h1 h2 => ?_⟩
      by_cases e : j = i
      · subst e; rw [hx]; exact hf
      · exact hgo j h1 (by omega)
  have hgok : gensOk gens = true := by
    have h : i = gens.length := by rw [decide_eq_false_iff_not, hgm] at he; omega
    unfold gensOk
    rw [List.all_eq_true]
    intro x hx
    obtain ⟨j, hj, rfl⟩ := List.getElem_of_mem hx
    simp only [Bool.and_eq_true, decide_eq_true_eq]
    exact hgo j hj (by omega)
  rw [if_neg (by simp [hgok])] at hwe
  (repeat (first | refine WK ?_ | refine All.i fun X => ?_ | refine AllY.i fun Y => ?_))
  refine AWP.lp2 (fun (i : Nat) (last : Int) => ⟨[(1, .fp (wdA false ⟨ks, gens, items⟩).cells), (6, iA last), (43, itemsA false false items), (44, iA (items.map (itemA false)).length), (45, iA i)], Sf⟩) (fun i last => i ≤ items.length ∧ -1 ≤ last ∧ itemsFrom ks gens last (items.drop i) = itemsFrom ks gens (-1) items) (fun i _ => items.length - i) 0 (-1) ⟨Nat.zero_le _, by omega, rfl⟩ ?_
  clear hil hgo he i
  rintro i last ⟨hil, hla, he⟩
  (repeat (first | refine WK ?_ | refine All.i fun X => ?_ | refine AllY.i fun Y => ?_))
  refine AWP.cond rfl (fun hd' => ?_) (fun hd' => ?_)
  · have h : i < items.length := by rw [decide_eq_true_eq, him] at hd'; omega
    obtain ⟨⟨⟨en, eg⟩, cs⟩, hit⟩ : ∃ it, items[i] = it := ⟨_, rfl⟩
    have hat : (items.map (itemA false))[i]? = some (itemA false ⟨⟨en, eg⟩, cs⟩) := by rw [List.getElem?_map, List.getElem?_eq_getElem h, hit]; rfl
    have hcl := hc _ (hit ▸ List.getElem_mem h)
    dsimp only at hcl
    (repeat (first | refine WK ?_ | refine All.i fun X => ?_ | refine AllY.i fun Y => ?_))
    rcases Bool.eq_false_or_eq_true (decide (en ≤ last)) with q1 | q1
    · (repeat refine WF ?_); refine AWP.region_run (by kernel_rfl) (by kernel_rfl) ?_; (repeat (first | (refine RGo.gQ ?_; first | refine RGo.goNU ?_ | refine RGo.goNV ?_) | refine RK ?_ | refine RGo.nil (by kernel_rfl) ?_))
      refine AWP.cond_t rfl (by first | rfl | assumption) ?_
      (repeat (first | refine WK ?_ | refine All.i fun X => ?_ | refine AllY.i fun Y => ?_))
      (refine AWP.ret ?_; (repeat (first | refine inB_r ?_ | refine andThen_r ?_)); refine retQ_r ?_); refine Ends.ps ?_
      rw [← hwe, if_pos (by rw [← he, itemsFrom_no h hit (.inl (by simpa using q1))])]
    obtain ⟨n, rfl⟩ : ∃ n : Nat, en = n := ⟨en.toNat, by rw [decide_eq_false_iff_not] at q1; omega⟩
    rcases Bool.eq_false_or_eq_true (decide (((gens.map iA).length : Int) ≤ n)) with q2 | q2
    · (repeat refine WF ?_); refine AWP.region_run (by kernel_rfl) (by kernel_rfl) ?_; (repeat (first | (refine RGo.gQ ?_; first | refine RGo.goNU ?_ | refine RGo.goNV ?_) | refine RK ?_ | refine RGo.nil (by kernel_rfl) ?_))
      refine AWP.cond_t rfl (by first | rfl | assumption) ?_
      (repeat (first | refine WK ?_ | refine All.i fun X => ?_ | refine AllY.i fun Y => ?_))
      (refine AWP.ret ?_; (repeat (first | refine inB_r ?_ | refine andThen_r ?_)); refine retQ_r ?_); refine Ends.ps ?_
      rw [← hwe, if_pos (by rw [← he, itemsFrom_no h hit (.inr (by rw [decide_eq_true_eq, hgm] at q2; exact q2))])]
    have hkl : n < gens.length := by rw [decide_eq_false_iff_not, hgm] at q2; omega
    obtain ⟨g, hg'⟩ : ∃ g, gens[n] = g := ⟨_, rfl⟩
    have hga : gens[n]? = some g := by rw [List.getElem?_eq_getElem hkl, hg']
    have hat2 : (gens.map iA)[n]? = some (iA g) := by rw [List.getElem?_map, hga]; rfl
    have hst := itemsFrom_at (ks := ks) (last := last) (g := g) h hit hga
    dsimp only at hst
    rw [decide_eq_true (by rw [decide_eq_false_iff_not] at q1; omega), decide_eq_true (p := (n : Int) < _) (by omega), Bool.true_and, Bool.true_and, he] at hst
    rcases Bool.eq_false_or_eq_true (decide (eg ≠ g)) with q3 | q3
    · (repeat refine WF ?_); refine AWP.region_run (by kernel_rfl) (by kernel_rfl) ?_; (repeat (first | (refine RGo.gQ ?_; first | refine RGo.goNU ?_ | refine RGo.goNV ?_) | refine RK ?_ | refine RGo.nil (by kernel_rfl) ?_))
      refine AWP.cond_t rfl (by first | rfl | assumption) ?_
      (repeat (first | refine WK ?_ | refine All.i fun X => ?_ | refine AllY.i fun Y => ?_))
      (refine AWP.ret ?_; (repeat (first | refine inB_r ?_ | refine andThen_r ?_)); refine retQ_r ?_); refine Ends.ps ?_
      rw [← hwe, if_pos (by rw [hst, decide_eq_false (by simpa using q3)]; rfl)]
    rcases Bool.eq_false_or_eq_true (decide (eg = 1073741824)) with q4 | q4
    · (repeat refine WF ?_); refine AWP.region_run (by kernel_rfl) (by kernel_rfl) ?_; (repeat (first | (refine RGo.gQ ?_; first | refine RGo.goNU ?_ | refine RGo.goNV ?_) | refine RK ?_ | refine RGo.nil (by kernel_rfl) ?_))
      refine AWP.cond_t rfl (by first | rfl | assumption) ?_
      (repeat (first | refine WK ?_ | refine All.i fun X => ?_ | refine AllY.i fun Y => ?_))
      (refine AWP.ret ?_; (repeat (first | refine inB_r ?_ | refine andThen_r ?_)); refine retQ_r ?_); refine Ends.ps ?_
      rw [← hwe, if_pos (by rw [hst, q4]; simp)]
    have hh := held_ps ks cs hcl
    obtain ⟨b, hb⟩ : ∃ b, heldOf ks cs = b := ⟨_, rfl⟩
    rw [decide_eq_true (p := eg = g) (by simpa using q3), q4, hb, Bool.true_and, Bool.not_false, Bool.true_and] at hst
    rw [hb] at hh
    cases b
    · (repeat refine WF ?_); refine AWP.region_run (by kernel_rfl) (by kernel_rfl) ?_; (repeat (first | (refine RGo.gN ?_; first | (refine RGo.g_callf ?_; first | refine RGo.c2 (h := (hh ..)) (k := ?_))) | (refine RGo.gQ ?_; first | (refine RGo.g_callf ?_; first | refine RGo.c2 (h := (hh ..)) (k := ?_))) | refine RK ?_ | refine RGo.nil (by kernel_rfl) ?_))
      refine AWP.cond_t rfl (by first | rfl | assumption) ?_
      (repeat (first | refine WK ?_ | refine All.i fun X => ?_ | refine AllY.i fun Y => ?_))
      (refine AWP.ret ?_; (repeat (first | refine inB_r ?_ | refine andThen_r ?_)); refine retQ_r ?_); refine Ends.ps ?_
      rw [← hwe, if_pos (by rw [hst]; rfl)]
    · (repeat refine WF ?_); refine AWP.region_run (by kernel_rfl) (by kernel_rfl) ?_; (repeat (first | (refine RGo.gN ?_; first | (refine RGo.g_callf ?_; first | refine RGo.c2 (h := (hh ..)) (k := ?_))) | (refine RGo.gQ ?_; first | (refine RGo.g_callf ?_; first | refine RGo.c2 (h := (hh ..)) (k := ?_))) | refine RK ?_ | refine RGo.nil (by kernel_rfl) ?_))
      refine AWP.cond_f rfl (by first | rfl | assumption) ?_
      (repeat (first | refine WK ?_ | refine All.i fun X => ?_ | refine AllY.i fun Y => ?_))
      refine lp_next2 (i + 1) n ⟨h, by omega, hst.symm⟩
  · have h : i = items.length := by rw [decide_eq_false_iff_not, him] at hd'; omega
    (repeat (first | refine WK ?_ | refine All.i fun X => ?_ | refine AllY.i fun Y => ?_))
    (refine AWP.ret ?_; (repeat (first | refine inB_r ?_ | refine andThen_r ?_)); refine retQ_r ?_); refine Ends.ps ?_
    rw [← hwe, if_neg (by rw [← he, h, List.drop_length]; simp [itemsFrom])]
end Go.Proofs.Ytbfcbfgpbbkecaa

namespace Go.Proofs.Ytbfcbfgpbbkecaa
set_option linter.unusedVariables false
end Go.Proofs.Ytbfcbfgpbbkecaa

namespace Go.Proofs.Ytbfcbfgpbbkecaa
set_option linter.unusedVariables false
end Go.Proofs.Ytbfcbfgpbbkecaa

namespace Go.Proofs.Ytbfcbfgpbbkecaa
set_option linter.unusedVariables false
end Go.Proofs.Ytbfcbfgpbbkecaa

namespace Go.Proofs.Ytbfcbfgpbbkecaa
set_option linter.unusedVariables false
end Go.Proofs.Ytbfcbfgpbbkecaa

namespace Go.Proofs.Ytbfcbfgpbbkecaa
set_option linter.unusedVariables false
/-- Components in increasing order of their kinds. -/
def SortC (l : List Comp) : Prop := l.Pairwise fun a b => a.kind < b.kind
end Go.Proofs.Ytbfcbfgpbbkecaa

namespace Go.Proofs.Ytbfcbfgpbbkecaa
set_option linter.unusedVariables false
/-- At most n different numbers from 0 to n - 1. -/
theorem nodup_le {α : Type} (g : α → Int) : ∀ (n : Nat) (l : List α), l.Pairwise (fun a b => g a ≠ g b) → (∀ a ∈ l, 0 ≤ g a ∧ g a < n) → l.length ≤ n := by
  intro n l h1 h2
  have h3 : (l.map fun a => (g a).toNat).Nodup := by
    rw [List.Nodup, List.pairwise_map]
    refine h1.imp_of_mem fun {a b} ha hb e => ?_
    have := h2 a ha
    have := h2 b hb
    omega
  have h4 := List.Nodup.length_le_of_subset h3 (l₂ := List.range n) (fun x hx => by
    obtain ⟨a, ha, rfl⟩ := List.mem_map.1 hx
    have := h2 a ha
    exact List.mem_range.2 (by omega))
  simpa using h4
end Go.Proofs.Ytbfcbfgpbbkecaa

namespace Go.Proofs.Ytbfcbfgpbbkecaa
set_option linter.unusedSimpArgs false
set_option linter.unusedVariables false

theorem genFields_len (i c : Nat) (l : List Int) : (genFields i c l).1.length = c := by
  induction c generalizing i l with
  | zero => rfl
  | succ c ih => simp [genFields, ih]
theorem genFields_names (i c : Nat) (l : List Int) : (genFields i c l).1.map (·.name) = (List.range' i c).map fieldName := by
  induction c generalizing i l with
  | zero => rfl
  | succ c ih =>
    have : (genField i l).1.name = fieldName i := by unfold genField; split <;> rfl
    simp [genFields, ih, List.range'_succ, this]
theorem genKindsFrom_len (k c : Nat) (l : List Int) : (genKindsFrom k c l).1.length = c := by
  induction c generalizing k l with
  | zero => rfl
  | succ c ih => simp [genKindsFrom, ih]
theorem genKindsFrom_names (k c : Nat) (l : List Int) : (genKindsFrom k c l).1.map (·.name) = (List.range' k c).map kindName := by
  induction c generalizing k l with
  | zero => rfl
  | succ c ih => simp [genKindsFrom, ih, List.range'_succ, genKind]

theorem fieldName_ok (i : Nat) : nameOk (fieldName i) = true := by
  unfold fieldName
  split <;> decide
theorem kindName_ok (i : Nat) : nameOk (kindName i) = true := by
  unfold kindName
  split <;> decide
theorem genField_ok (i : Nat) (l : List Int) : fieldErr (genField i l).1 = 0 := by
  have h1 := nextV_range l (n := 9) (by omega)
  have h2 := nextV_range (nextL l 9) (n := 40) (by omega)
  unfold genField
  split
  · simp [fieldErr, fieldName_ok]
  · simp [fieldErr, fieldName_ok]
    omega
theorem genFields_ok (i c : Nat) (l : List Int) : ∀ f ∈ (genFields i c l).1, fieldErr f = 0 := by
  induction c generalizing i l with
  | zero => intro f h; simp [genFields] at h
  | succ c ih =>
    intro f h
    simp only [genFields, List.mem_cons] at h
    rcases h with rfl | h
    · exact genField_ok i l
    · exact ih _ _ f h

theorem fieldsErr_nil0 : ∀ (fs pre : List Field), (∀ f ∈ fs, fieldErr f = 0) → ((pre ++ fs).map (·.name)).Nodup → fieldsErr pre fs = 0 := by
  intro fs
  induction fs with
  | nil => intro pre _ _; rfl
  | cons f fs ih =>
    intro pre h hn
    have h1 := h f (by simp)
    have h2 : pre.any (fun o => o.name == f.name) = false := by
      rw [List.any_eq_false]
      intro o ho
      simp only [beq_iff_eq]
      intro e
      rw [List.map_append, List.nodup_append] at hn
      exact hn.2.2 o.name (List.mem_map_of_mem ho) f.name (by simp) e
    simp only [fieldsErr, h1, h2]
    simp
    exact ih _ (fun x hx => h x (by simp [hx])) (by simpa using hn)
theorem kindsErr_zero : ∀ (ks pre : List Kind), (∀ k ∈ ks, oneErr k = 0) → ((pre ++ ks).map (·.name)).Nodup → kindsErr pre ks = 0 := by
  intro fs
  induction fs with
  | nil => intro pre _ _; rfl
  | cons f fs ih =>
    intro pre h hn
    have h1 := h f (by simp)
    have h2 : pre.any (fun o => o.name == f.name) = false := by
      rw [List.any_eq_false]
      intro o ho
      simp only [beq_iff_eq]
      intro e
      rw [List.map_append, List.nodup_append] at hn
      exact hn.2.2 o.name (List.mem_map_of_mem ho) f.name (by simp) e
    simp only [kindsErr, h1, h2]
    simp
    exact ih _ (fun x hx => h x (by simp [hx])) (by simpa using hn)
theorem fieldNames_nodup {c : Nat} (h : c ≤ 3) : ((List.range' 0 c).map fieldName).Nodup := by
  have : c = 0 ∨ c = 1 ∨ c = 2 ∨ c = 3 := by omega
  rcases this with rfl | rfl | rfl | rfl <;> decide
theorem kindNames_nodup {c : Nat} (h : c ≤ 4) : ((List.range' 0 c).map kindName).Nodup := by
  have : c = 0 ∨ c = 1 ∨ c = 2 ∨ c = 3 ∨ c = 4 := by omega
  rcases this with rfl | rfl | rfl | rfl | rfl <;> decide
theorem genKind_ok (k : Nat) (l : List Int) : oneErr (genKind k l).1 = 0 := by
  have h1 := nextV_range l (n := 3) (by omega)
  have h2 : (1 + nextV l 3).toNat ≤ 3 := by omega
  have h3 := fieldsErr_nil0 (genFields 0 (1 + nextV l 3).toNat (nextL l 3)).1 [] (genFields_ok _ _ _) (by
    rw [List.nil_append, genFields_names]
    exact fieldNames_nodup h2)
  have h4 := genFields_len 0 (1 + nextV l 3).toNat (nextL l 3)
  unfold oneErr genKind
  simp only [kindName_ok, h3, h4, if_true]
  rw [if_neg (by omega)]
theorem genKindsFrom_ok (i c : Nat) (l : List Int) : ∀ f ∈ (genKindsFrom i c l).1, oneErr f = 0 := by
  induction c generalizing i l with
  | zero => intro f h; simp [genKindsFrom] at h
  | succ c ih =>
    intro f h
    simp only [genKindsFrom, List.mem_cons] at h
    rcases h with rfl | h
    · exact genKind_ok i l
    · exact ih _ _ f h
theorem genKinds_len (l : List Int) : 1 ≤ (genKinds l).1.length ∧ (genKinds l).1.length ≤ 4 := by
  have h := nextV_range l (n := 4) (by omega)
  unfold genKinds
  rw [genKindsFrom_len]
  omega
theorem genKinds_nodup (l : List Int) : ((genKinds l).1.map (·.name)).Nodup := by
  have h := nextV_range l (n := 4) (by omega)
  unfold genKinds
  rw [genKindsFrom_names]
  exact kindNames_nodup (by omega)
theorem genKinds_ok (l : List Int) : ∀ k ∈ (genKinds l).1, oneErr k = 0 := genKindsFrom_ok _ _ _
theorem genKinds_check (l : List Int) : checkErr (genKinds l).1 = 0 := by
  unfold checkErr
  have := genKinds_len l
  rw [if_neg (by omega)]
  exact kindsErr_zero _ [] (genKinds_ok l) (genKinds_nodup l)
end Go.Proofs.Ytbfcbfgpbbkecaa

namespace Go.Proofs.Ytbfcbfgpbbkecaa
set_option linter.unusedVariables false
theorem near_low {f : Field} (h : fieldErr f = 0) (v : Int) : f.low ≤ nearOf f v ∧ nearOf f v ≤ highOf f := by
  have := highOf_bd h
  unfold nearOf
  rw [if_pos h]
  omega
theorem near_in {f : Field} (h : fieldErr f = 0) {v : Int} (h1 : f.low ≤ v) (h2 : v ≤ highOf f) : nearOf f v = v := by
  unfold nearOf
  rw [if_pos h]
  omega
theorem near_near {f : Field} (h : fieldErr f = 0) (v : Int) : nearOf f (nearOf f v) = nearOf f v := near_in h (near_low h v).1 (near_low h v).2
theorem near_fits {fs : List Field} (h : ∀ f ∈ fs, fieldErr f = 0) (vals : List Int) : List.zipWith nearOf fs (List.zipWith nearOf fs vals) = List.zipWith nearOf fs vals := by
  induction fs generalizing vals with
  | nil => rfl
  | cons f fs ih =>
    cases vals with
    | nil => rfl
    | cons v vals => simp [near_near (h f (by simp)), ih (fun x hx => h x (by simp [hx]))]
theorem fitOf_ok {k : Kind} (h : oneErr k = 0) {vals : List Int} (hl : vals.length = k.fields.length) : fitOf k vals = (List.zipWith nearOf k.fields vals, 0) := by
  unfold fitOf
  rw [if_neg (by simp [h]), if_neg (by simp [hl])]
theorem genKind_fields (k : Nat) (l : List Int) : (∀ f ∈ (genKind k l).1.fields, fieldErr f = 0) ∧ (genKind k l).1.fields.length ≤ 3 := by
  have h1 := nextV_range l (n := 3) (by omega)
  refine ⟨genFields_ok _ _ _, ?_⟩
  show (genFields _ _ _).1.length ≤ 3
  rw [genFields_len]
  omega
theorem genKindsFrom_fields (i c : Nat) (l : List Int) : ∀ k ∈ (genKindsFrom i c l).1, (∀ f ∈ k.fields, fieldErr f = 0) ∧ k.fields.length ≤ 3 := by
  induction c generalizing i l with
  | zero => intro f h; simp [genKindsFrom] at h
  | succ c ih =>
    intro f h
    simp only [genKindsFrom, List.mem_cons] at h
    rcases h with rfl | h
    · exact genKind_fields i l
    · exact ih _ _ f h
theorem genKinds_fields (l : List Int) : ∀ k ∈ (genKinds l).1, (∀ f ∈ k.fields, fieldErr f = 0) ∧ k.fields.length ≤ 3 := genKindsFrom_fields _ _ _
end Go.Proofs.Ytbfcbfgpbbkecaa

namespace Go.Proofs.Ytbfcbfgpbbkecaa
set_option linter.unusedSimpArgs false
set_option linter.unusedVariables false
/-- The values for the first i fields. -/
def vAt (fs : List Field) (l : List Int) : Nat → List Int × List Int
  | 0 => ([], l)
  | i + 1 => match fs[i]? with
    | some f => ((vAt fs l i).1 ++ [f.low + nextV (vAt fs l i).2 (2 ^ f.bits.toNat)], nextL (vAt fs l i).2 (2 ^ f.bits.toNat))
    | none => vAt fs l i
/-- The components of the first i kinds. -/
def cAt (ks : List Kind) (l : List Int) : Nat → List Comp × List Int
  | 0 => ([], l)
  | i + 1 => match ks[i]? with
    | some k => if nextV (cAt ks l i).2 3 = 2 then ((cAt ks l i).1, nextL (cAt ks l i).2 3)
      else ((cAt ks l i).1 ++ [⟨i, (vAt k.fields (nextL (cAt ks l i).2 3) k.fields.length).1⟩], (vAt k.fields (nextL (cAt ks l i).2 3) k.fields.length).2)
    | none => cAt ks l i
def genComps (ks : List Kind) (l : List Int) : List Comp × List Int := cAt ks l ks.length
/-- The generations and items of the first i slots. -/
def wAt (ks : List Kind) (l : List Int) : Nat → List Int × List Item × List Int
  | 0 => ([], [], l)
  | i + 1 =>
    if nextV (nextL (wAt ks l i).2.2 3) 4 = 3 ∨ (wAt ks l i).2.1.length = 8 then ((wAt ks l i).1 ++ [nextV (wAt ks l i).2.2 3], (wAt ks l i).2.1, nextL (nextL (wAt ks l i).2.2 3) 4)
    else ((wAt ks l i).1 ++ [nextV (wAt ks l i).2.2 3], (wAt ks l i).2.1 ++ [⟨⟨i, nextV (wAt ks l i).2.2 3⟩, (genComps ks (nextL (nextL (wAt ks l i).2.2 3) 4)).1⟩], (genComps ks (nextL (nextL (wAt ks l i).2.2 3) 4)).2)
def genWorld (l : List Int) : Wd :=
  ⟨(genKinds l).1, (wAt (genKinds l).1 (nextL (genKinds l).2 12) (nextV (genKinds l).2 12).toNat).1, (wAt (genKinds l).1 (nextL (genKinds l).2 12) (nextV (genKinds l).2 12).toNat).2.1⟩
/-- Fields whose values are small numbers. -/
def FieldOK (f : Field) : Prop := 0 ≤ f.bits ∧ f.bits ≤ 32 ∧ -2147483648 ≤ f.low ∧ f.low ≤ 2147483648
def KindsOK (ks : List Kind) : Prop := ks.length ≤ 1099511627776 ∧ ∀ k ∈ ks, k.fields.length ≤ 1099511627776 ∧ ∀ f ∈ k.fields, FieldOK f
end Go.Proofs.Ytbfcbfgpbbkecaa

namespace Go.Proofs.Ytbfcbfgpbbkecaa
set_option linter.unusedVariables false
theorem vAt_len (fs : List Field) (l : List Int) (i : Nat) : (vAt fs l i).1.length ≤ i := by
  induction i with
  | zero => simp [vAt]
  | succ i ih => rw [vAt]; split <;> (try simp only [List.length_append, List.length_singleton]) <;> omega
theorem cAt_len (ks : List Kind) (l : List Int) (i : Nat) : (cAt ks l i).1.length ≤ i := by
  induction i with
  | zero => simp [cAt]
  | succ i ih => rw [cAt]; split <;> (try split) <;> (try simp only [List.length_append, List.length_singleton]) <;> omega
theorem vAt_next {fs : List Field} {l : List Int} {i : Nat} (h : i < fs.length) : vAt fs l (i + 1) = ((vAt fs l i).1 ++ [fs[i].low + nextV (vAt fs l i).2 (2 ^ fs[i].bits.toNat)], nextL (vAt fs l i).2 (2 ^ fs[i].bits.toNat)) := by
  rw [vAt, List.getElem?_eq_getElem h]
theorem cAt_no {ks : List Kind} {l : List Int} {i : Nat} (h : i < ks.length) (h2 : nextV (cAt ks l i).2 3 = 2) : cAt ks l (i + 1) = ((cAt ks l i).1, nextL (cAt ks l i).2 3) := by
  rw [cAt, List.getElem?_eq_getElem h]; simp only; rw [if_pos h2]
theorem cAt_yes {ks : List Kind} {l : List Int} {i : Nat} (h : i < ks.length) (h2 : nextV (cAt ks l i).2 3 ≠ 2) : cAt ks l (i + 1) = ((cAt ks l i).1 ++ [⟨i, (vAt ks[i].fields (nextL (cAt ks l i).2 3) ks[i].fields.length).1⟩], (vAt ks[i].fields (nextL (cAt ks l i).2 3) ks[i].fields.length).2) := by
  rw [cAt, List.getElem?_eq_getElem h]; simp only; rw [if_neg h2]
theorem pow_small {b : Nat} (h : b ≤ 32) : (1 : Int) ≤ 2 ^ b ∧ (2 : Int) ^ b ≤ 4294967296 := by
  have h1 : (2 : Nat) ^ b ≤ 2 ^ 32 := Nat.pow_le_pow_right (by decide) h
  have h2 : 0 < (2 : Nat) ^ b := Nat.pow_pos (by decide)
  have h3 : ((2 : Int) ^ b) = (((2 : Nat) ^ b : Nat) : Int) := by simp
  rw [h3]
  have : (2 : Nat) ^ 32 = 4294967296 := by decide
  omega
theorem comps_po (G : Nat) (ks : List Kind) (l : List Int) (hk : KindsOK ks) : PO Try.prog 30 [kindsA false false ks, .ptr G 0 0] G (streamO l) (compsA true false (genComps ks l).1) (streamO (genComps ks l).2) := by
  refine Spec.of (nt := 50) (res := [.tmp 4]) Try.func30 rfl (by kernel_rfl) rfl rfl rfl fun Sf => ?_
  obtain ⟨hk0, hk1⟩ := hk
  (repeat refine WF ?_); refine AWP.region ?_; (repeat (first | refine WO ?_ | refine All.i fun X => ?_ | refine AllY.i fun Y => ?_)); refine AOps.nil ?_; (repeat refine WN ?_)
  (repeat refine WF ?_); refine AWP.region ?_; (repeat (first | refine WO ?_ | refine All.i fun X => ?_ | refine AllY.i fun Y => ?_)); refine AOps.nil ?_; (repeat refine WN ?_)
  (repeat refine WF ?_); refine AWP.region ?_; (repeat (first | refine WO ?_ | refine All.i fun X => ?_ | refine AllY.i fun Y => ?_)); refine AOps.nil ?_; (repeat refine WN ?_)
  (repeat first | refine AOps.nil ?_ | refine WF ?_)
  refine AWP.adopt (d := 5) 83 2 rfl fun K => ?_
  refine AWP.lp5 (fun (i K : Nat) (M : List AV) (n : Nat) (q : List Int) => ⟨[(1, .ptr G 0 0), (5, .sl K 0 n), (11, kindsA false false ks), (12, iA (ks.map (kindA false)).length), (13, iA i)], (K, .row 83 2 M) :: (G, streamO q) :: Sf⟩) (fun i _ M n q => i ≤ ks.length ∧ M = (cAt ks l i).1.map (compA false) ∧ n = M.length ∧ q = (cAt ks l i).2) (fun i _ _ _ _ => ks.length - i) 0 K [] 0 l ⟨Nat.zero_le _, rfl, rfl, rfl⟩ ?_
  rintro i K M n q ⟨hi, hM, hn, hq⟩
  (repeat (first | refine WK ?_ | refine All.i fun X => ?_ | refine AllY.i fun Y => ?_))
  refine AWP.cond rfl (fun hc => ?_) (fun hc => ?_)
  · have h : i < ks.length := by simpa using hc
    obtain ⟨hf0, hf1⟩ := hk1 _ (List.getElem_mem h)
    have h3 := nextV_range q (n := 3) (by decide)
    have hn1 : n + 1 ≤ 1099511627776 := by have := cAt_len ks l i; rw [hn, hM, List.length_map]; omega
    (repeat (first | (refine AOps.gN ?_; first | (refine AOps.g_callf ?_; first | refine AOps.o2 (h := (next_po G _ _ (by decide))) (k := ?_))) | refine WK ?_ | refine All.i fun X => ?_ | refine AllY.i fun Y => ?_))
    refine AWP.cond rfl (fun he => ?_) (fun he => ?_)
    · have he : nextV q 3 = 2 := by simpa using he
      (repeat (first | refine WK ?_ | refine All.i fun X => ?_ | refine AllY.i fun Y => ?_))
      refine lp_next5 (i + 1) K M n _ ⟨h, ?_, hn, ?_⟩
      · rw [cAt_no h (hq ▸ he), hM]
      · rw [cAt_no h (hq ▸ he), hq]
    · have he : nextV q 3 ≠ 2 := by simpa using he
      (repeat refine WF ?_); refine AWP.region ?_; (repeat (first | refine WO ?_ | refine All.i fun Y => ?_ | refine AllY.i fun Y => ?_)); refine AOps.nil ?_; (repeat refine WN ?_)
      refine AWP.adoptIn (Y := Y) 3 1 .here (fun F => .cons (.agg (.cons .same (.cons (.base .nil) .nil))) .nil) fun F => ?_
      (repeat (first | refine WK ?_ | refine All.i fun X => ?_ | refine AllY.i fun Y => ?_))
      obtain ⟨fs, hfs⟩ : ∃ fs, ks[i].fields = fs := ⟨_, rfl⟩
      obtain ⟨q1, hq1⟩ : ∃ q1, nextL q 3 = q1 := ⟨_, rfl⟩
      rw [hq1, hfs]
      have hck : cAt ks l (i + 1) = ((cAt ks l i).1 ++ [⟨i, (vAt fs q1 fs.length).1⟩], (vAt fs q1 fs.length).2) := by rw [cAt_yes h (hq ▸ he), ← hq, hq1, hfs]
      rw [hfs] at hf0 hf1
      refine AWP.lp5 (fun (j F : Nat) (L : List AV) (m : Nat) (r : List Int) => ⟨[(1, .ptr G 0 0), (5, .sl K 0 n), (6, iA i), (8, .ptr Y 0 0), (11, kindsA false false ks), (12, iA (ks.map (kindA false)).length), (13, iA i), (24, fieldsA false fs), (25, iA (fs.map fieldA).length), (26, iA j)], (F, .row 3 1 L) :: (Y, .row 83 2 [.agg [iA i, .sl F 0 m]]) :: (K, .row 83 2 M) :: (G, streamO r) :: Sf⟩) (fun j _ L m r => j ≤ fs.length ∧ L = (vAt fs q1 j).1.map iA ∧ m = L.length ∧ r = (vAt fs q1 j).2) (fun j _ _ _ _ => fs.length - j) 0 F [] 0 q1 ⟨Nat.zero_le _, rfl, rfl, rfl⟩ ?_
      rintro j F L m r ⟨hj, hL, hm, hr⟩
      (repeat (first | refine WK ?_ | refine All.i fun X => ?_ | refine AllY.i fun Y => ?_))
      refine AWP.cond rfl (fun hd => ?_) (fun hd => ?_)
      · have hj' : j < fs.length := by simpa using hd
        obtain ⟨hb0, hb1, hl0, hl1⟩ := hf1 _ (List.getElem_mem hj')
        obtain ⟨b, hb⟩ : ∃ b : Nat, fs[j].bits = b := ⟨fs[j].bits.toNat, by omega⟩
        have hp := pow_small (b := b) (by omega)
        have hw : IntKind.i64.wrap (1 * 2 ^ b) = 2 ^ b := by rw [Int.one_mul]; exact wrap_id (by omega) (by omega)
        have hv := nextV_range r (n := IntKind.i64.wrap (1 * 2 ^ b)) (by omega)
        have hm1 : m + 1 ≤ 1099511627776 := by have := vAt_len fs q1 j; rw [hm, hL, List.length_map]; omega
        (repeat (first | refine WK ?_ | refine All.i fun Z => ?_ | refine AllY.i fun Y => ?_))
        refine AWP.rs fun X7 => ?_
        (repeat refine WF ?_); refine AWP.region_run (by kernel_rfl) (by kernel_rfl) ?_; (repeat (first | (refine RGo.gN ?_; first | (refine RGo.g_callf ?_; first | refine RGo.o2 (h := (next_po G _ _ (by rw [hw]; omega))) (k := ?_)) | refine RGo.p (W.shl rfl rfl hb (by show b ≤ 64; omega)) rfl ?_ | refine RGo.p (W.add rfl rfl (by omega)) rfl ?_) | (refine RGo.gQ ?_; first | (refine RGo.g_callf ?_; first | refine RGo.o2 (h := (next_po G _ _ (by rw [hw]; omega))) (k := ?_)) | refine RGo.p (W.shl rfl rfl hb (by show b ≤ 64; omega)) rfl ?_ | refine RGo.p (W.add rfl rfl (by omega)) rfl ?_) | refine RK ?_ | refine RGo.nil (by kernel_rfl) ?_))
        (repeat (first | refine WK ?_ | refine All.i fun X => ?_ | refine AllY.i fun Y => ?_))
        have hva : vAt fs q1 (j + 1) = ((vAt fs q1 j).1 ++ [fs[j].low + nextV r (IntKind.i64.wrap (1 * 2 ^ b))], nextL r (IntKind.i64.wrap (1 * 2 ^ b))) := by rw [vAt_next hj', ← hr, hw, hb]; rfl
        refine lp_next5 (j + 1) X7 _ _ _ ⟨hj', ?_, ?_, ?_⟩
        · rw [hva, hL, List.map_append]; rfl
        · rw [List.length_append, hm]
        · rw [hva]
      · have hj' : j = fs.length := by rw [decide_eq_false_iff_not, List.length_map] at hd; omega
        subst hj'
        (repeat first | refine AOps.nil ?_ | refine WF ?_)
        refine AWP.iceIn (X := F) (Y := Y) .here (.next .here) rfl (.cons (.agg (.cons .same (.cons (.base (.sl (by omega))) .nil))) .nil) ?_
        have hF : AV.frzs ((L.drop 0).take m) = (vAt fs q1 fs.length).1.map iA := by
          rw [List.drop_zero, List.take_of_length_le (by omega), hL]
          exact Frzs.h
        rw [hF]
        (repeat (first | (refine AOps.gN ?_; first | (refine AOps.g_lit ?_; refine AOps.goL (compA false ⟨i, (vAt fs q1 fs.length).1⟩) ?_)) | refine WK ?_ | refine All.i fun X => ?_ | refine AllY.i fun Y => ?_))
        refine lp_next5 (i + 1) Y _ _ _ ⟨h, ?_, ?_, ?_⟩
        · rw [hck, hM, List.map_append]; rfl
        · rw [List.length_append, hn]
        · rw [hck, hr]
  · have h : i = ks.length := by rw [decide_eq_false_iff_not, List.length_map] at hc; omega
    subst h
    (repeat (first | refine WK ?_ | refine All.i fun X => ?_ | refine AllY.i fun Y => ?_))
    (refine AWP.ret ?_; (repeat (first | refine inB_r ?_ | refine andThen_r ?_)); refine retQ_r ?_)
    subst hM hq
    exact ⟨[.sl K 0 n], [.lst true 83 2 ((cAt ks l ks.length).1.map (compA false))], _, [(G, streamO (cAt ks l ks.length).2)], .cons (.tmp rfl) rfl .nil, .cons (.cell (.sl (p := 0) .here hn)) .nil, by exact Sub.f, rfl, rfl⟩
theorem wAt_len1 (ks : List Kind) (l : List Int) (i : Nat) : (wAt ks l i).1.length = i := by
  induction i with
  | zero => rfl
  | succ i ih => rw [wAt]; split <;> simp [ih]
theorem wAt_len2 (ks : List Kind) (l : List Int) (i : Nat) : (wAt ks l i).2.1.length ≤ i := by
  induction i with
  | zero => simp [wAt]
  | succ i ih => rw [wAt]; split <;> (try simp only [List.length_append, List.length_singleton]) <;> omega
/-- A made world: its lists of generations and items are its own. -/
def wdO (w : Wd) : AV := .agg [kindsA false false w.kinds, intsA true w.gens, itemsA true false w.items]
instance {w : Wd} : Frz (wdO w) (wdA false w) := ⟨by unfold wdO wdA; exact Frz.h⟩
theorem genField_rng (i : Nat) (l : List Int) : FieldOK (genField i l).1 := by
  have h9 := nextV_range l (n := 9) (by decide)
  have h40 := nextV_range (nextL l 9) (n := 40) (by decide)
  unfold genField
  split <;> refine ⟨?_, ?_, ?_, ?_⟩ <;> simp <;> omega
theorem fAt_rng (i : Nat) (l : List Int) : ∀ f ∈ (fAt i l).1, FieldOK f := by
  induction i with
  | zero => intro f hf; cases hf
  | succ i ih =>
    intro f hf
    rcases List.mem_append.1 hf with hf | hf
    · exact ih f hf
    · rw [List.mem_singleton.1 hf]; exact genField_rng _ _
theorem genKind_rng (k : Nat) (l : List Int) : (genKind k l).1.fields.length ≤ 3 ∧ ∀ f ∈ (genKind k l).1.fields, FieldOK f := by
  have h := nextV_range l (n := 3) (by decide)
  show (genFields 0 (1 + nextV l 3).toNat (nextL l 3)).1.length ≤ 3 ∧ ∀ f ∈ (genFields 0 (1 + nextV l 3).toNat (nextL l 3)).1, FieldOK f
  rw [genFields_at]
  exact ⟨by rw [fAt_len]; omega, fAt_rng _ _⟩
theorem kAt_rng (i : Nat) (l : List Int) : ∀ k ∈ (kAt i l).1, k.fields.length ≤ 3 ∧ ∀ f ∈ k.fields, FieldOK f := by
  induction i with
  | zero => intro f hf; cases hf
  | succ i ih =>
    intro f hf
    rcases List.mem_append.1 hf with hf | hf
    · exact ih f hf
    · rw [List.mem_singleton.1 hf]; exact genKind_rng _ _
theorem genKinds_cnt (l : List Int) : (genKinds l).1.length = (1 + nextV l 4).toNat := by rw [genKinds_at, kAt_len]
theorem genKinds_rng (l : List Int) : KindsOK (genKinds l).1 := by
  have h := nextV_range l (n := 4) (by decide)
  refine ⟨by rw [genKinds_cnt]; omega, ?_⟩
  rw [genKinds_at]
  intro k hk
  have := kAt_rng _ _ k hk
  exact ⟨by omega, this.2⟩
theorem world_ps (l : List Int) : PS Try.prog 11 [intsA false l] (wdO (genWorld l)) := by
  refine Spec.of (nt := 52) (res := [.cell 2 29]) Try.func11 rfl (by kernel_rfl) rfl rfl rfl fun Sf => ?_
  have hko := genKinds_rng l
  obtain ⟨ks, hks⟩ : ∃ ks, (genKinds l).1 = ks := ⟨_, rfl⟩
  obtain ⟨l1, hl1⟩ : ∃ l1, (genKinds l).2 = l1 := ⟨_, rfl⟩
  have h12 := nextV_range l1 (n := 12) (by decide)
  obtain ⟨c, hc⟩ : ∃ c : Nat, nextV l1 12 = c := ⟨(nextV l1 12).toNat, by omega⟩
  obtain ⟨l2, hl2⟩ : ∃ l2, nextL l1 12 = l2 := ⟨_, rfl⟩
  have hg : genWorld l = ⟨ks, (wAt ks l2 c).1, (wAt ks l2 c).2.1⟩ := by unfold genWorld; rw [hks, hl1, hl2, hc]; rfl
  have hkp := fun G => kinds_po G l
  rw [hks, hl1] at hkp
  rw [hks] at hko
  rw [hg]
  clear hg hks hl1
  (repeat refine WF ?_); refine AWP.region ?_; (repeat (first | refine WO ?_ | refine All.i fun R => ?_ | refine AllY.i fun Y => ?_)); refine AOps.nil ?_; (repeat refine WN ?_)
  (repeat refine WF ?_); refine AWP.region ?_; (repeat (first | refine WO ?_ | refine All.i fun G => ?_ | refine AllY.i fun Y => ?_)); refine AOps.nil ?_; (repeat refine WN ?_)
  (repeat refine WF ?_); refine AWP.region ?_; (repeat (first | (refine AOps.gN ?_; first | (refine AOps.g_callf ?_; first | refine AOps.o1 (h := (hkp G)) (k := ?_))) | refine WO ?_ | refine All.i fun V => ?_ | refine AllY.i fun Y => ?_)); refine AOps.nil ?_; (repeat refine WN ?_)
  (repeat refine WF ?_); refine AWP.region ?_; (repeat (first | (refine AOps.gN ?_; first | (refine AOps.g_callf ?_; first | refine AOps.o2 (h := (next_po G _ _ (by decide))) (k := ?_))) | refine WO ?_ | refine All.i fun X => ?_ | refine AllY.i fun Y => ?_)); refine AOps.nil ?_; (repeat refine WN ?_)
  rw [hl2, hc]
  refine AWP.adoptIn (Y := V) 73 3 (by exact At.f) (fun F => .cons (.agg (.cons .same (.cons .same (.cons (.base .nil) .nil)))) .nil) fun B => ?_
  refine AWP.adoptIn (Y := V) 3 1 (by exact At.f) (fun F => .cons (.agg (.cons .same (.cons (.base .nil) (.cons .same .nil)))) .nil) fun A => ?_
  (repeat first | refine AOps.nil ?_ | refine WF ?_)
  refine AWP.lp7 (fun (i A B : Nat) (L M : List AV) (n : Nat) (q : List Int) => ⟨[(2, .ptr R 0 0), (3, .ptr G 0 0), (4, .ptr V 0 0), (13, iA c), (14, iA i)], (A, .row 3 1 L) :: (B, .row 73 3 M) :: (V, .row 29 3 [.agg [kindsA false false ks, .sl A 0 i, .sl B 0 n]]) :: (G, streamO q) :: (R, .row 29 3 [.agg [.prim (.slice none 0 0), .prim (.slice none 0 0), .prim (.slice none 0 0)]]) :: Sf⟩) (fun i _ _ L M n q => i ≤ c ∧ L = (wAt ks l2 i).1.map iA ∧ M = (wAt ks l2 i).2.1.map (itemA false) ∧ n = M.length ∧ q = (wAt ks l2 i).2.2) (fun i _ _ _ _ _ _ => c - i) 0 A B [] [] 0 l2 ⟨Nat.zero_le _, rfl, rfl, rfl, rfl⟩ ?_
  rintro i A B L M n q ⟨hi, hL, hM, hn, hq⟩
  have hA := wAt_len1 ks l2 i
  have hB := wAt_len2 ks l2 i
  (repeat (first | refine WK ?_ | refine All.i fun X => ?_ | refine AllY.i fun Y => ?_))
  refine AWP.cond rfl (fun hd => ?_) (fun hd => ?_)
  · have h : i < c := by rw [decide_eq_true_eq] at hd; omega
    have h3 := nextV_range q (n := 3) (by decide)
    have h4 := nextV_range (nextL q 3) (n := 4) (by decide)
    (repeat refine WF ?_); refine AWP.region ?_; (repeat (first | refine WO ?_ | refine All.i fun X => ?_ | refine AllY.i fun Y => ?_)); refine AOps.nil ?_; (repeat refine WN ?_)
    refine AWP.rs fun X7 => ?_
    (repeat refine WF ?_); refine AWP.region_run (by kernel_rfl) (by kernel_rfl) ?_; (repeat (first | (refine RGo.gN ?_; first | (refine RGo.g_callf ?_; first | refine RGo.o2 (h := (next_po G _ _ (by decide))) (k := ?_))) | (refine RGo.gQ ?_; first | (refine RGo.g_callf ?_; first | refine RGo.o2 (h := (next_po G _ _ (by decide))) (k := ?_))) | refine RK ?_ | refine RGo.nil (by kernel_rfl) ?_))
    (repeat (first | (refine AOps.gN ?_; first | (refine AOps.g_callf ?_; first | refine AOps.o2 (h := (next_po G _ _ (by decide))) (k := ?_))) | refine WK ?_ | refine All.i fun X => ?_ | refine AllY.i fun Y => ?_))
    have hLl : L.length = i := by rw [hL, List.length_map, hA]
    obtain ⟨IT, hIT⟩ : ∃ IT, (wAt ks l2 i).2.1 = IT := ⟨_, rfl⟩
    rw [hIT] at hM hB
    have hnl : n = IT.length := by rw [hn, hM, List.length_map]
    have hat : (L ++ [.prim (.int .i64 (nextV q 3))])[i]? = some (.prim (.int .i64 (nextV q 3))) := by rw [← hLl]; simp
    refine AWP.cond rfl (fun he => ?_) (fun he => ?_)
    · have he : nextV (nextL q 3) 4 = 3 ∨ n = 8 := by rw [Bool.or_eq_true, decide_eq_true_eq, decide_eq_true_eq] at he; omega
      have hw : wAt ks l2 (i + 1) = ((wAt ks l2 i).1 ++ [nextV q 3], IT, nextL (nextL q 3) 4) := by rw [wAt, ← hq, hIT, ← hnl, if_pos he]
      (repeat (first | refine WK ?_ | refine All.i fun X => ?_ | refine AllY.i fun Y => ?_))
      refine lp_next7 (i + 1) X7 B _ M n _ ⟨h, ?_, ?_, hn, ?_⟩
      · rw [hw, hL, List.map_append]; rfl
      · rw [hw, hM]
      · rw [hw]
    · have he : ¬ (nextV (nextL q 3) 4 = 3 ∨ n = 8) := by rw [Bool.or_eq_false_iff, decide_eq_false_iff_not, decide_eq_false_iff_not] at he; omega
      have hw : wAt ks l2 (i + 1) = ((wAt ks l2 i).1 ++ [nextV q 3], IT ++ [⟨⟨i, nextV q 3⟩, (genComps ks (nextL (nextL q 3) 4)).1⟩], (genComps ks (nextL (nextL q 3) 4)).2) := by rw [wAt, ← hq, hIT, ← hnl, if_neg he]
      have hin : i < i + [AV.prim (.int .i64 (nextV q 3))].length := Nat.lt_succ_self i
      refine AWP.rs fun X8 => ?_
      (repeat refine WF ?_); refine AWP.region_run (by kernel_rfl) (by kernel_rfl) ?_; (repeat (first | (refine RGo.gN ?_; first | (refine RGo.g_callf ?_; first | refine RGo.o2 (h := (comps_po G ks _ hko)) (k := ?_)) | (refine RGo.g_lit ?_; refine RGo.goL (itemA false ⟨⟨i, nextV q 3⟩, (genComps ks (nextL (nextL q 3) 4)).1⟩) ?_)) | (refine RGo.gQ ?_; first | (refine RGo.g_callf ?_; first | refine RGo.o2 (h := (comps_po G ks _ hko)) (k := ?_)) | (refine RGo.g_lit ?_; refine RGo.goL (itemA false ⟨⟨i, nextV q 3⟩, (genComps ks (nextL (nextL q 3) 4)).1⟩) ?_)) | refine RK ?_ | refine RGo.nil (by kernel_rfl) ?_))
      (repeat (first | refine WK ?_ | refine All.i fun X => ?_ | refine AllY.i fun Y => ?_))
      refine lp_next7 (i + 1) X7 X8 _ _ _ _ ⟨h, ?_, ?_, ?_, ?_⟩
      · rw [hw, hL, List.map_append]; rfl
      · rw [hw, hM, List.map_append]; rfl
      · rw [List.length_append, hn]
      · rw [hw]
  · have h : i = c := by rw [decide_eq_false_iff_not] at hd; omega
    subst h
    (repeat (first | refine WK ?_ | refine All.i fun X => ?_ | refine AllY.i fun Y => ?_))
    (refine AWP.ret ?_; (repeat (first | refine inB_r ?_ | refine andThen_r ?_)); refine retQ_r ?_)
    subst hL hM
    have hA : i = ((wAt ks l2 i).1.map iA).length := by rw [List.length_map, hA]
    exact ⟨[.agg [kindsA false false ks, .sl A 0 i, .sl B 0 n]], [wdO ⟨ks, (wAt ks l2 i).1, (wAt ks l2 i).2.1⟩], _, [], .cons (.cell (p := 4) rfl (by exact At.f) TAg.h TSize.h rfl rfl) rfl .nil, .cons (.agg (.cons .same (.cons (.sl (p := 0) .here hA) (.cons (.sl (p := 0) .here hn) .nil)))) .nil, by exact Sub.f, rfl, rfl⟩
end Go.Proofs.Ytbfcbfgpbbkecaa

namespace Go.Proofs.Ytbfcbfgpbbkecaa
set_option linter.unusedVariables false
theorem cAt_mem {ks : List Kind} {l : List Int} {i : Nat} {c : Comp} (h : c ∈ (cAt ks l i).1) : ∃ (j : Nat) (hj : j < ks.length) (q : List Int), j < i ∧ c = ⟨j, (vAt ks[j].fields q ks[j].fields.length).1⟩ := by
  induction i with
  | zero => cases h
  | succ i ih =>
    by_cases hi : i < ks.length
    · by_cases h2 : nextV (cAt ks l i).2 3 = 2
      · rw [cAt_no hi h2] at h
        obtain ⟨j, hj, q, h3, h4⟩ := ih h
        exact ⟨j, hj, q, by omega, h4⟩
      · rw [cAt_yes hi h2] at h
        rcases List.mem_append.1 h with h | h
        · obtain ⟨j, hj, q, h3, h4⟩ := ih h
          exact ⟨j, hj, q, by omega, h4⟩
        · rw [List.mem_singleton.1 h]
          exact ⟨i, hi, _, by omega, rfl⟩
    · rw [cAt, List.getElem?_eq_none (by omega)] at h
      obtain ⟨j, hj, q, h3, h4⟩ := ih h
      exact ⟨j, hj, q, by omega, h4⟩
theorem wAt_mem {ks : List Kind} {l : List Int} {i : Nat} {it : Item} (h : it ∈ (wAt ks l i).2.1) : ∃ (j : Nat) (q : List Int), j < i ∧ (wAt ks l i).1[j]? = some it.ent.gen ∧ it.ent.n = j ∧ it.comps = (genComps ks q).1 := by
  induction i with
  | zero => cases h
  | succ i ih =>
    have hl := wAt_len1 ks l i
    have hup : ∀ (x : Int) (g : Int) (j : Nat), (wAt ks l i).1[j]? = some g → ((wAt ks l i).1 ++ [x])[j]? = some g := fun x g j hg => by
      rw [List.getElem?_append_left (List.getElem?_eq_some_iff.1 hg).1, hg]
    rw [wAt] at h ⊢
    split
    · rename_i hs
      rw [if_pos hs] at h
      obtain ⟨j, q, h1, h2, h3, h4⟩ := ih h
      exact ⟨j, q, by omega, hup _ _ _ h2, h3, h4⟩
    · rename_i hs
      rw [if_neg hs] at h
      rcases List.mem_append.1 h with h | h
      · obtain ⟨j, q, h1, h2, h3, h4⟩ := ih h
        exact ⟨j, q, by omega, hup _ _ _ h2, h3, h4⟩
      · rw [List.mem_singleton.1 h]
        exact ⟨i, _, by omega, by rw [List.getElem?_append_right (by omega), hl]; simp, rfl, rfl⟩
end Go.Proofs.Ytbfcbfgpbbkecaa

namespace Go.Proofs.Ytbfcbfgpbbkecaa
set_option linter.unusedVariables false
theorem heldFrom_iff {ks : List Kind} : ∀ {l : List Comp} {last : Int}, -1 ≤ last → (heldFrom ks last l = true ↔ l.Pairwise (fun a b => a.kind < b.kind) ∧ ∀ c ∈ l, last < c.kind ∧ c.kind < ks.length ∧ ∃ k, ks[c.kind.toNat]? = some k ∧ holdsOf k c.vals = true)
  | [], _, _ => by simp [heldFrom]
  | c :: l, last, hl => by
    rw [heldFrom]
    constructor
    · intro h
      split at h
      · rename_i k hk
        simp only [Bool.and_eq_true, decide_eq_true_eq] at h
        obtain ⟨⟨⟨h1, h2⟩, h3⟩, h4⟩ := h
        obtain ⟨h5, h6⟩ := (heldFrom_iff (by omega)).1 h4
        refine ⟨List.pairwise_cons.2 ⟨fun d hd => (h6 d hd).1, h5⟩, fun d hd => ?_⟩
        rcases List.mem_cons.1 hd with rfl | hd
        · exact ⟨h1, h2, k, hk, h3⟩
        · obtain ⟨q1, q2⟩ := h6 d hd
          exact ⟨by omega, q2⟩
      · cases h
    · rintro ⟨h1, h2⟩
      obtain ⟨h3, h4⟩ := List.pairwise_cons.1 h1
      obtain ⟨h5, h6, k, hk, h7⟩ := h2 c (by simp)
      rw [hk]
      simp only [Bool.and_eq_true, decide_eq_true_eq]
      exact ⟨⟨⟨h5, h6⟩, h7⟩, (heldFrom_iff (by omega)).2 ⟨h4, fun d hd => ⟨h3 d hd, (h2 d (by simp [hd])).2⟩⟩⟩
theorem itemsFrom_iff {ks : List Kind} {gens : List Int} : ∀ {l : List Item} {last : Int}, -1 ≤ last → (itemsFrom ks gens last l = true ↔ l.Pairwise (fun a b => a.ent.n < b.ent.n) ∧ ∀ it ∈ l, last < it.ent.n ∧ it.ent.n < gens.length ∧ gens[it.ent.n.toNat]? = some it.ent.gen ∧ it.ent.gen ≠ 1073741824 ∧ heldOf ks it.comps = true)
  | [], _, _ => by simp [itemsFrom]
  | c :: l, last, hl => by
    rw [itemsFrom]
    constructor
    · intro h
      split at h
      · rename_i k hk
        simp only [Bool.and_eq_true, decide_eq_true_eq, Bool.not_eq_true', decide_eq_false_iff_not] at h
        obtain ⟨⟨⟨⟨⟨h1, h2⟩, h3⟩, h4⟩, h7⟩, h8⟩ := h
        obtain ⟨h5, h6⟩ := (itemsFrom_iff (by omega)).1 h8
        refine ⟨List.pairwise_cons.2 ⟨fun d hd => (h6 d hd).1, h5⟩, fun d hd => ?_⟩
        rcases List.mem_cons.1 hd with rfl | hd
        · exact ⟨h1, h2, by rw [hk, h3], h4, h7⟩
        · obtain ⟨q1, q2⟩ := h6 d hd
          exact ⟨by omega, q2⟩
      · cases h
    · rintro ⟨h1, h2⟩
      obtain ⟨h3, h4⟩ := List.pairwise_cons.1 h1
      obtain ⟨h5, h6, hk, h7, h8⟩ := h2 c (by simp)
      rw [hk]
      simp only [Bool.and_eq_true, decide_eq_true_eq, Bool.not_eq_true', decide_eq_false_iff_not]
      exact ⟨⟨⟨⟨⟨h5, h6⟩, trivial⟩, h7⟩, h8⟩, (itemsFrom_iff (by omega)).2 ⟨h4, fun d hd => ⟨h3 d hd, (h2 d (by simp [hd])).2⟩⟩⟩
/-- What a valid world is. -/
structure WdOK (w : Wd) : Prop where
  ks : checkErr w.kinds = 0
  gl : w.gens.length ≤ 256
  il : w.items.length ≤ w.gens.length
  gs : ∀ g ∈ w.gens, 0 ≤ g ∧ g ≤ 1073741824
  so : w.items.Pairwise fun a b => a.ent.n < b.ent.n
  it : ∀ it ∈ w.items, 0 ≤ it.ent.n ∧ it.ent.n < w.gens.length ∧ w.gens[it.ent.n.toNat]? = some it.ent.gen ∧ it.ent.gen ≠ 1073741824 ∧ heldOf w.kinds it.comps = true
theorem wdErr_iff (w : Wd) : wdErr w = 0 ↔ WdOK w := by
  have hg : gensOk w.gens = true ↔ ∀ g ∈ w.gens, 0 ≤ g ∧ g ≤ 1073741824 := by
    unfold gensOk
    rw [List.all_eq_true]
    simp only [Bool.and_eq_true, decide_eq_true_eq]
  have hi := itemsFrom_iff (ks := w.kinds) (gens := w.gens) (l := w.items) (last := -1) (by omega)
  unfold wdErr
  constructor
  · intro h
    split at h
    · exact absurd h ‹_›
    rename_i h1
    split at h
    · cases h
    rename_i h2
    split at h
    · cases h
    rename_i h3
    split at h
    · cases h
    rename_i h4
    obtain ⟨h5, h6⟩ := hi.1 (by simpa using h4)
    exact ⟨by simpa using h1, by omega, by omega, hg.1 (by simpa using h3), h5, fun it hit => by obtain ⟨a, b⟩ := h6 it hit; exact ⟨by omega, b⟩⟩
  · intro h
    rw [if_neg (by simp [h.ks]), if_neg (by have := h.gl; have := h.il; omega), if_neg (by rw [hg.2 h.gs]; simp), if_neg (by rw [hi.2 ⟨h.so, fun it hit => by obtain ⟨a, b⟩ := h.it it hit; exact ⟨by omega, b⟩⟩]; simp)]
theorem cAt_pair (ks : List Kind) (l : List Int) (i : Nat) : (cAt ks l i).1.Pairwise fun a b => a.kind < b.kind := by
  induction i with
  | zero => exact .nil
  | succ i ih =>
    by_cases hi : i < ks.length
    · by_cases h2 : nextV (cAt ks l i).2 3 = 2
      · rw [cAt_no hi h2]; exact ih
      · rw [cAt_yes hi h2]
        refine List.pairwise_append.2 ⟨ih, List.pairwise_singleton .., fun a ha b hb => ?_⟩
        rw [List.mem_singleton.1 hb]
        obtain ⟨j, hj, q, hji, rfl⟩ := cAt_mem ha
        show (j : Int) < i
        omega
    · rw [cAt, List.getElem?_eq_none (by omega)]; exact ih
theorem vAt_fit {fs : List Field} (hf : ∀ f ∈ fs, fieldErr f = 0) (hr : ∀ f ∈ fs, FieldOK f) (l : List Int) : ∀ i, i ≤ fs.length → List.zipWith nearOf (fs.take i) (vAt fs l i).1 = (vAt fs l i).1 ∧ (vAt fs l i).1.length = i
  | 0, _ => ⟨rfl, rfl⟩
  | i + 1, h => by
    obtain ⟨h1, h2⟩ := vAt_fit hf hr l i (by omega)
    rw [vAt_next (by omega)]
    have hm := List.getElem_mem (l := fs) (n := i) (by omega)
    obtain ⟨hb0, hb1, _, _⟩ := hr _ hm
    have hp := pow_small (b := fs[i].bits.toNat) (by omega)
    have hv := nextV_range (vAt fs l i).2 (n := 2 ^ fs[i].bits.toNat) (by omega)
    have hh : highOf fs[i] = fs[i].low + (2 ^ fs[i].bits.toNat - 1) := by unfold highOf; rw [if_pos (hf _ hm)]
    refine ⟨?_, by rw [List.length_append, h2]; rfl⟩
    rw [List.take_succ_eq_append_getElem (by omega), List.zipWith_append (by rw [h2, List.length_take]; omega), h1]
    simp only [List.zipWith_cons_cons, List.zipWith_nil_left]
    rw [near_in (hf _ hm) (by omega) (by rw [hh]; omega)]
theorem vAt_holds {k : Kind} (h1 : oneErr k = 0) (hf : ∀ f ∈ k.fields, fieldErr f = 0) (hr : ∀ f ∈ k.fields, FieldOK f) (l : List Int) : holdsOf k (vAt k.fields l k.fields.length).1 = true := by
  obtain ⟨h2, h3⟩ := vAt_fit hf hr l k.fields.length (Nat.le_refl _)
  rw [List.take_length] at h2
  unfold holdsOf
  rw [fitOf_ok h1 h3, h2]
  simp
/-- Kinds as they are made. -/
structure KsGood (ks : List Kind) : Prop where
  one : ∀ k ∈ ks, oneErr k = 0
  fld : ∀ k ∈ ks, ∀ f ∈ k.fields, fieldErr f = 0
  rng : ∀ k ∈ ks, ∀ f ∈ k.fields, FieldOK f
theorem genKinds_good (l : List Int) : KsGood (genKinds l).1 :=
  ⟨genKinds_ok l, fun k hk => (genKinds_fields l k hk).1, fun k hk => ((genKinds_rng l).2 k hk).2⟩
theorem genComps_held {ks : List Kind} (h : KsGood ks) (l : List Int) : heldOf ks (genComps ks l).1 = true := by
  unfold heldOf
  rw [heldFrom_iff (by omega)]
  refine ⟨cAt_pair _ _ _, fun c hc => ?_⟩
  obtain ⟨j, hj, q, _, rfl⟩ := cAt_mem hc
  have hm := List.getElem_mem hj
  exact ⟨by show (-1 : Int) < (j : Int); omega, by show (j : Int) < _; omega, ks[j], List.getElem?_eq_getElem hj, vAt_holds (h.one _ hm) (h.fld _ hm) (h.rng _ hm) q⟩
theorem wAt_pair (ks : List Kind) (l : List Int) (i : Nat) : (wAt ks l i).2.1.Pairwise fun a b => a.ent.n < b.ent.n := by
  induction i with
  | zero => exact .nil
  | succ i ih =>
    rw [wAt]
    split
    · exact ih
    · refine List.pairwise_append.2 ⟨ih, List.pairwise_singleton .., fun a ha b hb => ?_⟩
      rw [List.mem_singleton.1 hb]
      obtain ⟨j, q, hji, _, e, _⟩ := wAt_mem ha
      show a.ent.n < (i : Int)
      omega
theorem wAt_gens (ks : List Kind) (l : List Int) (i : Nat) : ∀ g ∈ (wAt ks l i).1, 0 ≤ g ∧ g < 3 := by
  induction i with
  | zero => intro g hg; cases hg
  | succ i ih =>
    intro g hg
    rw [wAt] at hg
    have h3 := nextV_range (wAt ks l i).2.2 (n := 3) (by decide)
    split at hg <;>
    · rcases List.mem_append.1 hg with hg | hg
      · exact ih g hg
      · rw [List.mem_singleton.1 hg]; exact h3
/-- Made worlds are valid. -/
theorem genWorld_ok (l : List Int) : WdOK (genWorld l) := by
  have h := nextV_range (genKinds l).2 (n := 12) (by decide)
  have h1 := wAt_len2 (genKinds l).1 (nextL (genKinds l).2 12) (nextV (genKinds l).2 12).toNat
  have h2 := wAt_len1 (genKinds l).1 (nextL (genKinds l).2 12) (nextV (genKinds l).2 12).toNat
  have h3 := wAt_gens (genKinds l).1 (nextL (genKinds l).2 12) (nextV (genKinds l).2 12).toNat
  refine ⟨genKinds_check l, ?_, ?_, fun g hg => ?_, wAt_pair _ _ _, fun it hit => ?_⟩
  · exact Nat.le_trans (Nat.le_of_eq h2) (by omega)
  · exact Nat.le_trans h1 (Nat.le_of_eq h2.symm)
  · have := h3 g hg; omega
  · obtain ⟨j, q, hji, hg, hn, hc⟩ := wAt_mem hit
    have hjl : j < (wAt (genKinds l).1 (nextL (genKinds l).2 12) (nextV (genKinds l).2 12).toNat).1.length := (List.getElem?_eq_some_iff.1 hg).1
    have hgm := h3 _ (List.mem_of_getElem? hg)
    refine ⟨by omega, ?_, ?_, by omega, by rw [hc]; exact genComps_held (genKinds_good l) q⟩
    · rw [hn]; show (j : Int) < ((wAt _ _ _).1.length : Int); omega
    · rw [hn]; exact hg
end Go.Proofs.Ytbfcbfgpbbkecaa

namespace Go.Proofs.Ytbfcbfgpbbkecaa
set_option linter.unusedVariables false
section
variable {α : Type} {key : α → Int} {l a b : List α}
/-- In strictly increasing order of a key. -/
def KS (key : α → Int) (l : List α) : Prop := l.Pairwise fun a b => key a < key b
end
/- Components. -/
theorem held_iff {ks : List Kind} {l : List Comp} : heldOf ks l = true ↔ SortC l ∧ ∀ c ∈ l, 0 ≤ c.kind ∧ c.kind < ks.length ∧ ∃ k, ks[c.kind.toNat]? = some k ∧ holdsOf k c.vals = true := by
  unfold heldOf
  rw [heldFrom_iff (by omega)]
  constructor
  · rintro ⟨h1, h2⟩
    exact ⟨h1, fun c hc => ⟨by have := (h2 c hc).1; omega, (h2 c hc).2⟩⟩
  · rintro ⟨h1, h2⟩
    exact ⟨h1, fun c hc => ⟨by have := (h2 c hc).1; omega, (h2 c hc).2⟩⟩
/- Fitting. -/
theorem kindsErr_one {pre ks : List Kind} (h : kindsErr pre ks = 0) : ∀ k ∈ ks, oneErr k = 0 := by
  induction ks generalizing pre with
  | nil => intro k hk; cases hk
  | cons x l ih =>
    intro k hk
    simp only [kindsErr] at h
    split at h
    · exact absurd h ‹_›
    · rename_i hx
      split at h
      · cases h
      · rcases List.mem_cons.1 hk with rfl | hk
        · simpa using hx
        · exact ih h k hk
theorem checkErr_one {ks : List Kind} (h : checkErr ks = 0) : ks.length ≤ 16 ∧ ∀ k ∈ ks, oneErr k = 0 := by
  unfold checkErr at h
  split at h
  · cases h
  · exact ⟨by omega, kindsErr_one h⟩
theorem holds_fit {k : Kind} {v : List Int} (h : holdsOf k v = true) : fitOf k v = (v, 0) := by
  unfold holdsOf at h
  simp only [Bool.and_eq_true, decide_eq_true_eq] at h
  exact Prod.ext h.2 h.1
theorem fitOf_holds {k : Kind} {v : List Int} (h : (fitOf k v).2 = 0) : holdsOf k (fitOf k v).1 = true ∧ (fitOf k v).1 = List.zipWith nearOf k.fields v ∧ v.length = k.fields.length := by
  unfold fitOf at h ⊢
  split at h
  · exact absurd h ‹_›
  · rename_i h1
    have h1 : oneErr k = 0 := by simpa using h1
    split at h
    · cases h
    · rename_i h2
      have h2 : v.length = k.fields.length := by simpa using h2
      rw [if_neg (by simp [h1]), if_neg (by simp [h2])]
      refine ⟨?_, rfl, h2⟩
      unfold holdsOf
      rw [fitOf_ok h1 (by simp [h2]), near_fits (oneErr_zero h1).2.2]
      simp
theorem held_small {ks : List Kind} (hk : checkErr ks = 0) {l : List Comp} (h : heldOf ks l = true) : l.length ≤ 16 ∧ ∀ c ∈ l, c.vals.length ≤ 8 := by
  obtain ⟨hs, hm⟩ := held_iff.1 h
  obtain ⟨h16, ho⟩ := checkErr_one hk
  refine ⟨Nat.le_trans (nodup_le Comp.kind _ _ (hs.imp fun h => by omega) fun c hc => ⟨(hm c hc).1, (hm c hc).2.1⟩) h16, fun c hc => ?_⟩
  obtain ⟨_, _, k, hk2, hh⟩ := hm c hc
  have h8 := (oneErr_zero (ho k (List.mem_of_getElem? hk2))).2.1
  have := fitOf_holds (k := k) (v := c.vals) (by rw [holds_fit hh])
  omega
/-- Valid worlds are small. -/
theorem WdOK.wl {w : Wd} (h : WdOK w) : WdL w := by
  obtain ⟨h16, ho⟩ := checkErr_one h.ks
  refine ⟨⟨by omega, fun k hk => by have := (oneErr_zero (ho k hk)).2.1; omega⟩, by have := h.gl; omega, by have := h.gl; have := h.il; omega, fun it hit => ?_⟩
  obtain ⟨h1, h2⟩ := held_small h.ks (h.it it hit).2.2.2.2
  exact ⟨by omega, fun c hc => by have := h2 c hc; omega⟩
end Go.Proofs.Ytbfcbfgpbbkecaa

namespace Go.Proofs.Ytbfcbfgpbbkecaa
set_option linter.unusedVariables false
/-- What save.Write returns. -/
def writeM (w : Wd) : List UInt8 × Int :=
  if wdErr w ≠ 0 then ([], wdErr w) else if (Wr.adds ⟨[], 0⟩ (worldC w)).e ≠ 0 ∨ 65536 < (packB (Wr.adds ⟨[], 0⟩ (worldC w)).bs).length + 8 then ([], 2) else (sealB (packB (Wr.adds ⟨[], 0⟩ (worldC w)).bs), 0)
def kindsR (b : List UInt8) (s : RdS) : List Kind × RdS := kindsGo b (s.get b 5).1 (s.get b 5).2 []
def slotsR (b : List UInt8) (ks : List Kind) (s : RdS) : List Int × List Item × RdS := slotsGo b ks (s.get b 9).1 0 (s.get b 9).2 [] []
/-- What save.Read returns, but for the last comparison. -/
def readB (b : List UInt8) : Wd × Int :=
  if (RdS.get b ⟨0, false⟩ 8).1 ≠ 1 ∨ (RdS.get b ⟨0, false⟩ 8).2.bad = true then (⟨[], [], []⟩, 3) else
  if (kindsR b (RdS.get b ⟨0, false⟩ 8).2).2.bad = true ∨ checkErr (kindsR b (RdS.get b ⟨0, false⟩ 8).2).1 ≠ 0 then (⟨[], [], []⟩, 3) else
  if (slotsR b (kindsR b (RdS.get b ⟨0, false⟩ 8).2).1 (kindsR b (RdS.get b ⟨0, false⟩ 8).2).2).2.2.bad = true then (⟨[], [], []⟩, 3) else
  (⟨(kindsR b (RdS.get b ⟨0, false⟩ 8).2).1, (slotsR b (kindsR b (RdS.get b ⟨0, false⟩ 8).2).1 (kindsR b (RdS.get b ⟨0, false⟩ 8).2).2).1, (slotsR b (kindsR b (RdS.get b ⟨0, false⟩ 8).2).1 (kindsR b (RdS.get b ⟨0, false⟩ 8).2).2).2.1⟩, 0)
/-- What save.Read returns. -/
def readM (b : List UInt8) : Wd × Int :=
  if 65536 < b.length then (⟨[], [], []⟩, 2) else if b.length < 8 then (⟨[], [], []⟩, 14) else if sealB (b.take (b.length - 8)) ≠ b then (⟨[], [], []⟩, 13) else
  if (readB (b.take (b.length - 8))).2 ≠ 0 then (⟨[], [], []⟩, (readB (b.take (b.length - 8))).2) else
  if writeM (readB (b.take (b.length - 8))).1 = (b, 0) then ((readB (b.take (b.length - 8))).1, 0) else (⟨[], [], []⟩, 3)
theorem fields_ok : ∀ (pre fs : List Field), fieldsErr pre fs = 0 → ∀ f ∈ fs, fieldErr f = 0
  | _, [], _, f, hf => by cases hf
  | pre, f0 :: fs, h, f, hf => by
    rw [fieldsErr] at h
    split at h
    · exact absurd h ‹_›
    · rename_i h0
      split at h
      · cases h
      · rcases List.mem_cons.1 hf with rfl | hf
        · simpa using h0
        · exact fields_ok _ fs h f hf
theorem kok_of {k : Kind} (h : oneErr k = 0) : KOK k := by
  unfold oneErr at h
  split at h
  · split at h
    · cases h
    · exact ⟨‹_›, by omega, fields_ok [] _ h⟩
  · cases h
theorem vok_of {k : Kind} {vs : List Int} (h : holdsOf k vs = true) : VOK k.fields vs := by
  unfold holdsOf at h
  simp only [Bool.and_eq_true, decide_eq_true_eq] at h
  obtain ⟨h1, h2⟩ := h
  unfold fitOf at h1 h2
  split at h1
  · exact absurd h1 ‹_›
  · rename_i hk
    have hk := kok_of (Classical.not_not.1 hk)
    rw [if_neg ‹_›] at h2
    split at h1
    · cases h1
    · rename_i hl
      rw [if_neg hl] at h2
      have hl := Classical.not_not.1 hl
      dsimp only at h2
      refine ⟨hl, fun q hq => ?_⟩
      have hf := hk.fs q.1 (List.of_mem_zip hq).1
      obtain ⟨_, b1, b2, _, _⟩ := fieldErr_sv hf
      have hn : nearOf q.1 q.2 = q.2 := by
        obtain ⟨i, hi, e⟩ := List.getElem_of_mem hq
        rw [List.getElem_zip] at e
        have hi' : i < k.fields.length ∧ i < vs.length := by rw [List.length_zip] at hi; omega
        have := congrArg (fun l => l[i]?) h2
        simp only [List.getElem?_zipWith, List.getElem?_eq_getElem hi'.1, List.getElem?_eq_getElem hi'.2] at this
        injection this with this
        rw [← e]
        exact this
      unfold nearOf at hn
      rw [if_pos hf] at hn
      unfold highOf at hn
      rw [if_pos hf] at hn
      have hp : (0 : Int) < 2 ^ q.1.bits.toNat := Int.pow_pos (by decide)
      refine ⟨b1, b2, by omega, by omega⟩
theorem cok_of {ks : List Kind} {l : List Comp} (h : heldOf ks l = true) : COK ks 0 l := by
  obtain ⟨h1, h2⟩ := held_iff.1 h
  refine ⟨h1, fun c hc => ?_⟩
  obtain ⟨a, b, k, e, f⟩ := h2 c hc
  refine ⟨by simpa using a, by simpa using b, k, ?_, vok_of f⟩
  rw [show c.kind - ((0 : Nat) : Int) = c.kind by omega]
  exact e
theorem sok_of {w : Wd} (h : WdOK w) : SOK w.kinds w.gens 0 w.items := by
  refine ⟨h.gs, h.so, fun x hx => ?_⟩
  obtain ⟨a, b, c, d, e⟩ := h.it x hx
  refine ⟨by simpa using a, by simpa using b, ?_, cok_of e⟩
  rw [show x.ent.n - ((0 : Nat) : Int) = x.ent.n by omega]
  exact c
/-- The body of what is written is read back. -/
theorem readB_of {w : Wd} (h : WdOK w) : readB (packB (worldC w).flatten) = (w, 0) := by
  have hks : ∀ k ∈ w.kinds, KOK k := fun k hk => kok_of ((checkErr_one h.ks).2 k hk)
  have h16 := (checkErr_one h.ks).1
  have hgl := h.gl
  obtain ⟨F, hF⟩ : ∃ F, (worldC w).flatten = F := ⟨_, rfl⟩
  rw [hF]
  have h0 : Rest F 0 ((worldC w).flatten ++ []) := ⟨Nat.zero_le _, by rw [List.append_nil, hF]; rfl⟩
  unfold worldC kindsC at h0
  simp only [List.flatten_cons, List.flatten_append, List.cons_append, List.append_assoc] at h0
  have g1 := get_at (bad := false) h0 (by omega) (by decide : (1 : UInt64).toNat < 2 ^ 8)
  have s1 := h0.step (bitsU_len _ _)
  have n2 : (UInt64.ofNat w.kinds.length).toNat = w.kinds.length := by rw [UInt64.toNat_ofNat']; omega
  have g2 := get_at (bad := false) s1 (by omega) (by rw [n2]; omega)
  rw [n2] at g2
  have s2 := s1.step (bitsU_len _ _)
  have g3 := kindsGo_at (bad := false) w.kinds [] _ hks s2
  have s3 := s2.step rfl
  have n4 : (UInt64.ofNat w.gens.length).toNat = w.gens.length := by rw [UInt64.toNat_ofNat']; omega
  have g4 := get_at (bad := false) s3 (by omega) (by rw [n4]; omega)
  rw [n4] at g4
  have s4 := s3.step (bitsU_len _ _)
  have g5 := slotsGo_at w.kinds w.gens 0 w.items [] [] _ (sok_of h) s4
  have hkr : kindsR (packB F) ⟨0 + 8, false⟩ = (w.kinds, ⟨0 + 8 + 5 + (w.kinds.flatMap kindCh).flatten.length, false⟩) := by
    unfold kindsR
    rw [g2]
    dsimp only
    rw [g3, List.nil_append]
  have hsr : ∃ p, slotsR (packB F) w.kinds ⟨0 + 8 + 5 + (w.kinds.flatMap kindCh).flatten.length, false⟩ = (w.gens, w.items, ⟨p, false⟩) := by
    unfold slotsR
    rw [g4]
    dsimp only
    rw [g5]
    exact ⟨_, rfl⟩
  obtain ⟨p, hsr⟩ := hsr
  unfold readB
  rw [g1]
  dsimp only
  rw [hkr]
  dsimp only
  rw [hsr, h.ks]
  simp
/-- What is written is read back. -/
theorem read_write {w : Wd} {b : List UInt8} (h : writeM w = (b, 0)) : readM b = (w, 0) := by
  have hb := h
  unfold writeM at h
  split at h
  · rename_i h0
    injection h with _ h
    exact absurd h h0
  · rename_i h0
    split at h
    · injection h with _ h
      cases h
    · rename_i h1
      injection h with h _
      have hok := (wdErr_iff w).1 (Classical.not_not.1 h0)
      simp only [not_or, Classical.not_not, Nat.not_lt] at h1
      obtain ⟨e1, e2⟩ := h1
      obtain ⟨_, hroom⟩ := adds_room (worldC w) ⟨[], 0⟩ (by simp) e1
      have hs := adds_ok (worldC w) ⟨[], 0⟩ rfl hroom
      rw [hs] at h e2
      dsimp only [List.nil_append] at h e2
      have hl : b.length = (packB (worldC w).flatten).length + 8 := by rw [← h, sealB, List.length_append, le8_len]
      have ht : b.take (b.length - 8) = packB (worldC w).flatten := by
        rw [hl, Nat.add_sub_cancel, ← h, sealB, List.take_left' rfl]
      unfold readM
      rw [ht, if_neg (by omega), if_neg (by omega), if_neg (by rw [h]; simp), readB_of hok]
      simp [hb]
end Go.Proofs.Ytbfcbfgpbbkecaa

namespace Go.Proofs.Ytbfcbfgpbbkecaa
set_option linter.unusedVariables false
theorem fieldR_le {b : List UInt8} {s : RdS} (h : s.p ≤ 8 * b.length) : (fieldR b s).2.p ≤ 8 * b.length := intR_le (get_le (nameR_le h))
theorem fieldsGo_le {b : List UInt8} : ∀ (n : Nat) (s : RdS) (o : List Field), s.p ≤ 8 * b.length → (fieldsGo b n s o).2.p ≤ 8 * b.length
  | 0, s, o, h => h
  | n + 1, s, o, h => fieldsGo_le n _ _ (fieldR_le h)
theorem kindR_le {b : List UInt8} {s : RdS} (h : s.p ≤ 8 * b.length) : (kindR b s).2.p ≤ 8 * b.length := fieldsGo_le _ _ _ (get_le (nameR_le h))
theorem kindsGo_le {b : List UInt8} : ∀ (n : Nat) (s : RdS) (o : List Kind), s.p ≤ 8 * b.length → (kindsGo b n s o).2.p ≤ 8 * b.length
  | 0, s, o, h => h
  | n + 1, s, o, h => kindsGo_le n _ _ (kindR_le h)
set_option maxHeartbeats 2000000 in
theorem rkinds_sp (R X : Nat) (b : List UInt8) (s : RdS) (hb : b.length ≤ 65536) (hp : s.p ≤ 8 * b.length) : Spec Try.prog 21 [.ptr X 0 0] (rdSl R X b s) fun r S' => r = kindsA false false (kindsR b s).1 ∧ S' = rdSl R X b ⟨(kindsR b s).2.p, (kindsR b s).2.bad || decide (checkErr (kindsR b s).1 ≠ 0)⟩ := by
  have h1 := rget_sp R X b s 5 hb hp (by decide)
  have h2 := get_lt (b := b) (s := s) (n := 5) (by decide)
  have h3 := get_le (b := b) (s := s) (n := 5) hp
  unfold kindsR
  obtain ⟨⟨c, s1⟩, hz⟩ : ∃ z, s.get b 5 = z := ⟨_, rfl⟩
  rw [hz] at h1 h2 h3 ⊢
  dsimp only at h1 h2 h3 ⊢
  obtain ⟨⟨KS, s2⟩, hg⟩ : ∃ z, kindsGo b c s1 [] = z := ⟨_, rfl⟩
  rw [hg]
  dsimp only
  have hck := check_ps KS
  refine Spec.of (nt := 72) (res := [.tmp 2]) Try.func21 rfl (by kernel_rfl) rfl rfl rfl fun Sf => ?_
  (repeat refine WF ?_); refine AWP.region ?_; (repeat (first | refine WO ?_ | refine All.i fun X => ?_ | refine AllY.i fun Y => ?_)); refine AOps.nil ?_; (repeat refine WN ?_)
  (repeat first | refine AOps.nil ?_ | refine WF ?_)
  (repeat refine WF ?_); refine AWP.region ?_; (repeat (first | refine WO ?_ | refine All.i fun X => ?_ | refine AllY.i fun Y => ?_)); refine AOps.nil ?_; (repeat refine WN ?_)
  (repeat first | refine AOps.nil ?_ | refine WF ?_)
  (repeat refine WF ?_); refine AWP.region ?_; (repeat (first | (refine AOps.gN ?_; first | (refine AOps.g_callf ?_; first | refine AOps.z2 (h := h1) (hT := .fz) (k := ?_))) | refine WO ?_ | refine All.i fun X => ?_ | refine AllY.i fun Y => ?_)); refine AOps.nil ?_; (repeat refine WN ?_)
  (repeat first | refine AOps.nil ?_ | refine WF ?_)
  refine AWP.adopt (d := 3) 81 2 rfl fun H => ?_
  refine AWP.lp4 (fun (i K : Nat) (o : List Kind) (s : RdS) => ⟨[(0, .ptr X 0 0), (3, .sl K 0 i), (9, iA c), (10, iA i)], (K, .row 81 2 (o.map (kindA false))) :: (rdSl R X b s ++ Sf)⟩) (fun i K o s => i ≤ c ∧ o.length = i ∧ s.p ≤ 8 * b.length ∧ kindsGo b (c - i) s o = (KS, s2)) (fun i _ _ _ => c - i) 0 H [] s1 ⟨by omega, rfl, h3, hg⟩ ?_
  rintro i K o s ⟨hi, hol, hsp, hgo⟩
  have hpm : i = (o.map (kindA false)).length := by rw [List.length_map, hol]
  (repeat refine WF ?_); refine AWP.region ?_; (repeat (first | refine WO ?_ | refine All.i fun X => ?_ | refine AllY.i fun Y => ?_)); refine AOps.nil ?_; (repeat refine WN ?_)
  (repeat first | refine AOps.nil ?_ | refine WF ?_)
  refine AWP.cond rfl (fun hc => ?_) (fun hc => ?_)
  · have hc : i < c := by rw [decide_eq_true_eq] at hc; omega
    have g1 := rname_sp R X b s hb hsp
    have g2 := nameR_le (b := b) (s := s) hsp
    rw [show c - i = (c - (i + 1)) + 1 by omega, kindsGo] at hgo
    unfold kindR at hgo
    obtain ⟨⟨nm, sn⟩, hv⟩ : ∃ z, nameR b s = z := ⟨_, rfl⟩
    rw [hv] at g1 g2 hgo
    dsimp only at g1 g2 hgo
    have g3 := rget_sp R X b sn 4 hb g2 (by decide)
    have g4 := get_lt (b := b) (s := sn) (n := 4) (by decide)
    have g5 := get_le (b := b) (s := sn) (n := 4) g2
    obtain ⟨⟨fc, sf⟩, hv2⟩ : ∃ z, sn.get b 4 = z := ⟨_, rfl⟩
    rw [hv2] at g3 g4 g5 hgo
    dsimp only at g3 g4 g5 hgo
    have g6 := fieldsGo_le fc sf [] g5
    obtain ⟨⟨FS, sg⟩, hv3⟩ : ∃ z, fieldsGo b fc sf [] = z := ⟨_, rfl⟩
    rw [hv3] at hgo g6
    dsimp only at hgo g6
    (repeat first | refine AOps.nil ?_ | refine WF ?_)
    (repeat refine WF ?_); refine AWP.region ?_; (repeat (first | (refine AOps.gN ?_; first | (refine AOps.g_callf ?_; first | refine AOps.z1 (h := g1) (hT := .fz) (k := ?_))) | refine WO ?_ | refine All.i fun Y => ?_ | refine AllY.i fun Y => ?_)); refine AOps.nil ?_; (repeat refine WN ?_)
    (repeat first | refine AOps.nil ?_ | refine WF ?_)
    refine AWP.adoptIn (Y := Y) 78 3 .here (fun F => .cons (.agg (.cons .same (.cons (.base .nil) .nil))) .nil) fun F => ?_
    (repeat refine WF ?_); refine AWP.region ?_; (repeat (first | (refine AOps.gN ?_; first | (refine AOps.g_callf ?_; first | refine AOps.z2 (h := g3) (hT := .fz) (k := ?_))) | refine WO ?_ | refine All.i fun X => ?_ | refine AllY.i fun Y => ?_)); refine AOps.nil ?_; (repeat refine WN ?_)
    (repeat first | refine AOps.nil ?_ | refine WF ?_)
    refine AWP.lp4 (fun (j F : Nat) (fs : List Field) (s : RdS) => ⟨[(0, .ptr X 0 0), (3, .sl K 0 i), (4, .ptr Y 0 0), (9, iA c), (10, iA i), (16, iA fc), (17, iA j)], (F, .row 78 3 (fs.map fieldA)) :: (Y, .row 81 2 [.agg [sA nm, .sl F 0 j]]) :: (K, .row 81 2 (o.map (kindA false))) :: (rdSl R X b s ++ Sf)⟩) (fun j F fs s => j ≤ fc ∧ fs.length = j ∧ s.p ≤ 8 * b.length ∧ fieldsGo b (fc - j) s fs = (FS, sg)) (fun j _ _ _ => fc - j) 0 F [] sf ⟨by omega, rfl, g5, hv3⟩ ?_
    rintro j F fs t ⟨hj, hfl, htp, hfo⟩
    have hfm : j = (fs.map fieldA).length := by rw [List.length_map, hfl]
    (repeat refine WF ?_); refine AWP.region ?_; (repeat (first | refine WO ?_ | refine All.i fun X => ?_ | refine AllY.i fun Y => ?_)); refine AOps.nil ?_; (repeat refine WN ?_)
    (repeat first | refine AOps.nil ?_ | refine WF ?_)
    refine AWP.cond rfl (fun hd => ?_) (fun hd => ?_)
    · have hd : j < fc := by rw [decide_eq_true_eq] at hd; omega
      have e1 := rname_sp R X b t hb htp
      have e2 := nameR_le (b := b) (s := t) htp
      rw [show fc - j = (fc - (j + 1)) + 1 by omega, fieldsGo] at hfo
      unfold fieldR at hfo
      obtain ⟨⟨fm, tn⟩, hv⟩ : ∃ z, nameR b t = z := ⟨_, rfl⟩
      rw [hv] at e1 e2 hfo
      dsimp only at e1 e2 hfo
      have e3 := rget_sp R X b tn 5 hb e2 (by decide)
      have e4 := get_lt (b := b) (s := tn) (n := 5) (by decide)
      have e5 := get_le (b := b) (s := tn) (n := 5) e2
      obtain ⟨⟨fb, tb⟩, hv2⟩ : ∃ z, tn.get b 5 = z := ⟨_, rfl⟩
      rw [hv2] at e3 e4 e5 hfo
      dsimp only at e3 e4 e5 hfo
      obtain ⟨tp, tbad⟩ := tb
      dsimp only at e5 hfo
      have e6 := brint_sp R b tp hb e5
      have e7 := intR_le (b := b) (p := tp) e5
      obtain ⟨⟨fl, fe, tq⟩, hv3⟩ : ∃ z, intR b tp = z := ⟨_, rfl⟩
      rw [hv3] at e6 e7 hfo
      dsimp only at e6 e7 hfo
      (repeat first | refine AOps.nil ?_ | refine WF ?_)
      (repeat refine WF ?_); refine AWP.region ?_; (repeat (first | (refine AOps.gN ?_; first | (refine AOps.g_callf ?_; first | refine AOps.z1 (h := e1) (hT := .fz) (k := ?_))) | refine WO ?_ | refine All.i fun V => ?_ | refine AllY.i fun Y => ?_)); refine AOps.nil ?_; (repeat refine WN ?_)
      (repeat first | refine AOps.nil ?_ | refine WF ?_)
      (repeat refine WF ?_); refine AWP.region ?_; (repeat (first | (refine AOps.gN ?_; first | (refine AOps.g_callf ?_; first | refine AOps.z2 (h := e3) (hT := .fz) (k := ?_)) | refine AOps.go (h := W.addE ((fb : Int) + 1) rfl (by omega) rfl rfl) (k := ?_)) | refine WO ?_ | refine All.i fun X => ?_ | refine AllY.i fun Y => ?_)); refine AOps.nil ?_; (repeat refine WN ?_)
      (repeat first | refine AOps.nil ?_ | refine WF ?_)
      (repeat refine WF ?_); refine AWP.region ?_; (repeat (first | (refine AOps.gN ?_; first | (refine AOps.g_callf ?_; first | refine AOps.z1 (h := e6) (hT := .fz) (k := ?_))) | refine WO ?_ | refine All.i fun X => ?_ | refine AllY.i fun Y => ?_)); refine AOps.nil ?_; (repeat refine WN ?_)
      (repeat first | refine AOps.nil ?_ | refine WF ?_)
      (repeat refine WF ?_); refine AWP.region ?_; (repeat (first | refine WO ?_ | refine All.i fun X => ?_ | refine AllY.i fun Y => ?_)); refine AOps.nil ?_; (repeat refine WN ?_)
      (repeat first | refine AOps.nil ?_ | refine WF ?_)
      (repeat refine WF ?_); refine AWP.region ?_; (repeat (first | refine WO ?_ | refine All.i fun X => ?_ | refine AllY.i fun Y => ?_)); refine AOps.nil ?_; (repeat refine WN ?_)
      (repeat first | refine AOps.nil ?_ | refine WF ?_)
      (repeat refine WF ?_); refine AWP.region ?_; (repeat (first | (refine AOps.gN ?_; first | (refine AOps.g_lit ?_; refine AOps.goL (fieldA ⟨fm, (fb : Int) + 1, fl⟩) ?_)) | refine WO ?_ | refine All.i fun X => ?_ | refine AllY.i fun Y => ?_)); refine AOps.nil ?_; (repeat refine WN ?_)
      have hma : fs.map fieldA ++ [fieldA ⟨fm, (fb : Int) + 1, fl⟩] = (fs ++ [(⟨fm, (fb : Int) + 1, fl⟩ : Field)]).map fieldA := by simp
      rw [hma]
      (repeat first | refine AOps.nil ?_ | refine WF ?_)
      (repeat refine WF ?_); refine AWP.region ?_; (repeat (first | refine WO ?_ | refine All.i fun X => ?_ | refine AllY.i fun Y => ?_)); refine AOps.nil ?_; (repeat refine WN ?_)
      exact lp_next4 (j + 1) Y (fs ++ [⟨fm, (fb : Int) + 1, fl⟩]) ⟨tq, tbad || decide (fe ≠ 0)⟩ ⟨by omega, by rw [List.length_append, hfl]; rfl, e7, hfo⟩ (by omega)
    · have hd : j = fc := by rw [decide_eq_false_iff_not] at hd; omega
      subst hd
      rw [Nat.sub_self] at hfo
      have hfo : (fs, t) = (FS, sg) := hfo
      injection hfo with e1 e2
      subst e1 e2
      (repeat first | refine AOps.nil ?_ | refine WF ?_)
      refine AWP.iceIn (X := F) (Y := Y) .here (.next .here) rfl (.cons (.agg (.cons .same (.cons (.base (.sl (by omega))) .nil))) .nil) ?_
      have hF : AV.frzs (((fs.map fieldA).drop 0).take j) = fs.map fieldA := by
        rw [List.drop_zero, List.take_of_length_le (by omega)]
        exact Frzs.h
      rw [hF]
      (repeat refine WF ?_); refine AWP.region ?_; (repeat (first | (refine AOps.gN ?_; first | (refine AOps.g_lit ?_; refine AOps.goL (kindA false ⟨nm, fs⟩) ?_)) | refine WO ?_ | refine All.i fun X => ?_ | refine AllY.i fun Y => ?_)); refine AOps.nil ?_; (repeat refine WN ?_)
      have hma : o.map (kindA false) ++ [kindA false ⟨nm, fs⟩] = (o ++ [(⟨nm, fs⟩ : Kind)]).map (kindA false) := by simp
      rw [hma]
      (repeat first | refine AOps.nil ?_ | refine WF ?_)
      (repeat refine WF ?_); refine AWP.region ?_; (repeat (first | refine WO ?_ | refine All.i fun X => ?_ | refine AllY.i fun Y => ?_)); refine AOps.nil ?_; (repeat refine WN ?_)
      exact lp_next4 (i + 1) Y (o ++ [⟨nm, fs⟩]) t ⟨by omega, by rw [List.length_append, hol]; rfl, htp, hgo⟩ (by omega)
  · have hc : i = c := by rw [decide_eq_false_iff_not] at hc; omega
    subst hc
    rw [Nat.sub_self] at hgo
    have hgo : (o, s) = (KS, s2) := hgo
    injection hgo with e1 e2
    subst e1 e2
    obtain ⟨sp, sb⟩ := s
    (repeat first | refine AOps.nil ?_ | refine WF ?_)
    refine AWP.ice (d := 3) rfl .here hpm ?_
    have hF : AV.frzs (o.map (kindA false)) = o.map (kindA false) := Frzs.h
    rw [hF]
    dsimp only
    cases sb with
    | true =>
      (repeat refine WF ?_); refine AWP.region ?_; (repeat (first | (refine AOps.gQ ?_; first | refine AOps.goNU ?_ | refine AOps.goNV ?_) | refine WO ?_ | refine All.i fun X => ?_ | refine AllY.i fun Y => ?_)); refine AOps.nil ?_; (repeat refine WN ?_)
      (repeat first | refine AOps.nil ?_ | refine WF ?_)
      (repeat refine WF ?_); refine AWP.region ?_; (repeat (first | refine WO ?_ | refine All.i fun X => ?_ | refine AllY.i fun Y => ?_)); refine AOps.nil ?_; (repeat refine WN ?_)
      (refine AWP.ret ?_; (repeat (first | refine inB_r ?_ | refine andThen_r ?_)); refine retQ_r ?_)
      exact Ends.sp [kindsA false false o] [(R, _), (X, _)] ⟨rfl, rfl⟩
    | false =>
      (repeat refine WF ?_); refine AWP.region ?_; (repeat (first | (refine AOps.gN ?_; first | (refine AOps.g_callf ?_; first | refine AOps.c1 (h := (hck ..)) (k := ?_))) | refine WO ?_ | refine All.i fun X => ?_ | refine AllY.i fun Y => ?_)); refine AOps.nil ?_; (repeat refine WN ?_)
      (repeat first | refine AOps.nil ?_ | refine WF ?_)
      (repeat refine WF ?_); refine AWP.region ?_; (repeat (first | refine WO ?_ | refine All.i fun X => ?_ | refine AllY.i fun Y => ?_)); refine AOps.nil ?_; (repeat refine WN ?_)
      (refine AWP.ret ?_; (repeat (first | refine inB_r ?_ | refine andThen_r ?_)); refine retQ_r ?_)
      exact Ends.sp [kindsA false false o] [(R, _), (X, _)] ⟨rfl, rfl⟩
end Go.Proofs.Ytbfcbfgpbbkecaa

namespace Go.Proofs.Ytbfcbfgpbbkecaa
set_option linter.unusedVariables false
theorem W.shlE {P : Program} {dst : Option Tmp} {ty t ty2 : TypeId} {pos : String} {after : Array Edge} {g : Option (Nat × Bool)} {T : List (Nat × AV)} {S : List Slot} {c : Option (List Bool)} {x y : Operand} {i j : Int} {k k' : IntKind} (m : Nat) (r : Int) (h : k.wrap (i * 2 ^ m) = r) (hj : j = (m : Int)) (hm : m ≤ k.bits) (hx : Rd c T x (.prim (.int k i))) (hy : Rd c T y (.prim (.int k' j))) : Stp c P ⟨dst, .binOp .shl t x y ty2, ty, pos, after, g⟩ T S [(x, .prim (.int k i)), (y, .prim (.int k' j))] [] (.prim (.int k r)) [] := by
  subst h
  exact W.shl hx hy hj hm
def clampQ (a : Int) : Int := if 1099511627776 < (if a < -1099511627776 then -1099511627776 else a) then 1099511627776 else if a < -1099511627776 then -1099511627776 else a
theorem clampQ_id {a : Int} (h : -4294967296 ≤ a ∧ a ≤ 4294967296) : clampQ a = a := by
  have e1 : (if a < -1099511627776 then -1099511627776 else a) = a := if_neg (by omega)
  unfold clampQ
  rw [e1, if_neg (by omega)]
theorem clampQ_ps (a : Int) (h : -4294967296 ≤ a ∧ a ≤ 4294967296) : PS Try.prog 71 [iA a] (iA a) := by
  suffices hh : PS Try.prog 71 [iA a] (iA (clampQ a)) by rwa [clampQ_id h] at hh
  refine Spec.of (nt := 6) (res := [.tmp 2]) Try.func71 rfl (by kernel_rfl) rfl rfl rfl fun Sf => ?_
  (repeat (first | refine WK ?_ | refine All.i fun X => ?_ | refine AllY.i fun Y => ?_))
  (refine AWP.ret ?_; (repeat (first | refine inB_r ?_ | refine andThen_r ?_)); refine retQ_r ?_); refine Ends.ps ?_
  rfl
theorem qcheck_ps (f : Field) (h1 : 0 ≤ f.bits) (h2 : f.bits ≤ 32) (h3 : -4294967296 ≤ f.low) (h4 : f.low ≤ 4294967296) : PS Try.prog 67 [fieldA f] (iA 0) := by
  obtain ⟨fn, fb, fl⟩ := f
  dsimp only at h1 h2 h3 h4
  have hc := clampQ_ps fl ⟨h3, h4⟩
  have d1 : decide (fb < 0) = false := decide_eq_false (by omega)
  have d2 : decide ((32 : Int) < fb) = false := decide_eq_false (by omega)
  refine Spec.of (nt := 19) (res := [.tmp 2]) Try.func67 rfl (by kernel_rfl) rfl rfl rfl fun Sf => ?_
  (repeat refine WF ?_); refine AWP.region ?_; (repeat (first | refine WO ?_ | refine All.i fun B => ?_ | refine AllY.i fun Y => ?_)); refine AOps.nil ?_; (repeat refine WN ?_)
  (repeat first | refine AOps.nil ?_ | refine WF ?_)
  (repeat refine WF ?_); refine AWP.region_run (by kernel_rfl) (by kernel_rfl) ?_; (repeat (first | (refine RGo.gN ?_; first | (refine RGo.g_callf ?_; first | refine RGo.c1 (h := (hc ..)) (k := ?_))) | (refine RGo.gQ ?_; first | (refine RGo.g_callf ?_; first | refine RGo.c1 (h := (hc ..)) (k := ?_))) | refine RK ?_ | refine RGo.nil (by kernel_rfl) ?_))
  (repeat first | refine AOps.nil ?_ | refine WF ?_)
  refine AWP.cond_f rfl (by simp) ?_
  (repeat (first | refine WK ?_ | refine All.i fun X => ?_ | refine AllY.i fun Y => ?_))
  (refine AWP.ret ?_; (repeat (first | refine inB_r ?_ | refine andThen_r ?_)); refine retQ_r ?_); refine Ends.ps ?_
  rfl
theorem qfit_ps (f : Field) (v : Int) (h1 : 0 ≤ f.bits) (h2 : f.bits ≤ 32) (h3 : -4294967296 ≤ f.low) (h4 : f.low ≤ 4294967296) (h5 : f.low ≤ v) (h6 : v - f.low < 2 ^ f.bits.toNat) : PS Try.prog 70 [fieldA f, iA v] (iA v) := by
  obtain ⟨fn, fb, fl⟩ := f
  dsimp only at h1 h2 h3 h4 h5 h6
  obtain ⟨n, rfl⟩ : ∃ n : Nat, fb = n := ⟨fb.toNat, by omega⟩
  have hc := clampQ_ps fl ⟨h3, h4⟩
  have hn : ((n : Int)).toNat = n := rfl
  rw [hn] at h6
  have hp : (2 : Int) ^ n ≤ 4294967296 ∧ 1 ≤ (2 : Int) ^ n := by
    have : ∀ n, n ≤ 32 → (2 : Int) ^ n ≤ 4294967296 ∧ 1 ≤ (2 : Int) ^ n := by decide
    exact this n (by omega)
  have hw : IntKind.i64.wrap (1 * 2 ^ n) = 2 ^ n := by rw [Int.one_mul]; exact wrap_id (by omega) (by omega)
  have e1 : (if (n : Int) < 0 then 0 else (n : Int)) = n := if_neg (by omega)
  have e2 : (if 32 < (if (n : Int) < 0 then 0 else (n : Int)) then 32 else (if (n : Int) < 0 then 0 else (n : Int))) = n := by rw [e1, if_neg (by omega)]
  have e3 : (if v < fl then fl else v) = v := if_neg (by omega)
  have e4 : (if fl + 2 ^ n - 1 < (if v < fl then fl else v) then fl + 2 ^ n - 1 else (if v < fl then fl else v)) = v := by rw [e3, if_neg (by omega)]
  refine Spec.of (nt := 21) (res := [.tmp 4]) Try.func70 rfl (by kernel_rfl) rfl rfl rfl fun Sf => ?_
  (repeat refine WF ?_); refine AWP.region ?_; (repeat (first | refine WO ?_ | refine All.i fun B => ?_ | refine AllY.i fun Y => ?_)); refine AOps.nil ?_; (repeat refine WN ?_)
  (repeat first | refine AOps.nil ?_ | refine WF ?_)
  (repeat refine WF ?_); refine AWP.region ?_; (repeat (first | (refine AOps.gN ?_; first | (refine AOps.g_callf ?_; first | refine AOps.c1 (h := (hc ..)) (k := ?_))) | refine WO ?_ | refine All.i fun X => ?_ | refine AllY.i fun Y => ?_)); refine AOps.nil ?_; (repeat refine WN ?_)
  (repeat first | refine AOps.nil ?_ | refine WF ?_)
  (repeat refine WF ?_); refine AWP.region ?_; (repeat (first | (refine AOps.gN ?_; first | refine AOps.go (h := W.shlE n (2 ^ n) hw e2 (by show n ≤ 64; omega) rfl rfl) (k := ?_) | refine AOps.go (h := W.addE (fl + 2 ^ n) rfl (by omega) rfl rfl) (k := ?_) | refine AOps.go (h := W.subE (fl + 2 ^ n - 1) rfl (by omega) rfl rfl) (k := ?_)) | refine WO ?_ | refine All.i fun X => ?_ | refine AllY.i fun Y => ?_)); refine AOps.nil ?_; (repeat refine WN ?_)
  (refine AWP.ret ?_; (repeat (first | refine inB_r ?_ | refine andThen_r ?_)); refine retQ_r ?_); refine Ends.ps ?_
  show iA _ = _
  rw [show (if fl + 2 ^ n - 1 < (if v < fl then fl else v) then fl + 2 ^ n - 1 else (if v < fl then fl else v)) = v from e4]
theorem qput_sp (t : TypeId) (sz : Nat) (e : Int) (X H : Nat) (bs : List Bool) (f : Field) (v : Int) (h1 : 1 ≤ f.bits) (h2 : f.bits ≤ 32) (h3 : -4294967296 ≤ f.low) (h4 : f.low ≤ 4294967296) (h5 : f.low ≤ v) (h6 : v - f.low < 2 ^ f.bits.toNat) (hr : bs.length ≤ 524288) :
    Spec Try.prog 61 [.ptr X 0 0, fieldA f, iA v] (wrS t sz e X H bs) fun r S' => ∃ K : Nat, r = iA (addE bs (bitsU (UInt64.ofInt (v - f.low)) f.bits.toNat)) ∧ S' = wrS t sz e X K (addB bs (bitsU (UInt64.ofInt (v - f.low)) f.bits.toNat)) := by
  have hc := qcheck_ps f (by omega) h2 h3 h4
  have hf := qfit_ps f v (by omega) h2 h3 h4 h5 h6
  obtain ⟨fn, fb, fl⟩ := f
  dsimp only at h1 h2 h3 h4 h5 h6
  obtain ⟨n, rfl⟩ : ∃ n : Nat, fb = n := ⟨fb.toNat, by omega⟩
  have hn : ((n : Int)).toNat = n := rfl
  rw [hn] at h6
  have hp : (2 : Int) ^ n ≤ 4294967296 := by
    have : ∀ n, n ≤ 32 → (2 : Int) ^ n ≤ 4294967296 := by decide
    exact this n (by omega)
  have hb := bput_ad t sz e X H bs (UInt64.ofInt (v - fl)) n (by omega) (by
    rw [ofIntN (by omega) (by omega)]
    have : ((2 ^ n : Nat) : Int) = (2 : Int) ^ n := by rw [Int.natCast_pow]; rfl
    omega) hr
  show Spec _ _ _ _ fun r S' => ∃ K : Nat, r = iA (addE bs (bitsU (UInt64.ofInt (v - fl)) n)) ∧ S' = wrS t sz e X K (addB bs (bitsU (UInt64.ofInt (v - fl)) n))
  obtain ⟨er, her⟩ : ∃ x, addE bs (bitsU (UInt64.ofInt (v - fl)) n) = x := ⟨_, rfl⟩
  obtain ⟨cs, hcs⟩ : ∃ x, addB bs (bitsU (UInt64.ofInt (v - fl)) n) = x := ⟨_, rfl⟩
  rw [her, hcs] at hb ⊢
  refine Spec.of (nt := 27) (res := [.tmp 6]) Try.func61 rfl (by kernel_rfl) rfl rfl rfl fun Sf => ?_
  (repeat refine WF ?_); refine AWP.region ?_; (repeat (first | refine WO ?_ | refine All.i fun B => ?_ | refine AllY.i fun Y => ?_)); refine AOps.nil ?_; (repeat refine WN ?_)
  (repeat first | refine AOps.nil ?_ | refine WF ?_)
  (repeat refine WF ?_); refine AWP.region ?_; (repeat (first | (refine AOps.gN ?_; first | (refine AOps.g_callf ?_; first | refine AOps.c1 (h := (hc ..)) (k := ?_))) | refine WO ?_ | refine All.i fun X => ?_ | refine AllY.i fun Y => ?_)); refine AOps.nil ?_; (repeat refine WN ?_)
  (repeat first | refine AOps.nil ?_ | refine WF ?_)
  (repeat refine WF ?_); refine AWP.region ?_; (repeat (first | refine WO ?_ | refine All.i fun X => ?_ | refine AllY.i fun Y => ?_)); refine AOps.nil ?_; (repeat refine WN ?_)
  (repeat first | refine AOps.nil ?_ | refine WF ?_)
  refine AWP.cond_f rfl rfl ?_
  (repeat first | refine AOps.nil ?_ | refine WF ?_)
  (repeat refine WF ?_); refine AWP.region ?_; (repeat (first | (refine AOps.gN ?_; first | (refine AOps.g_callf ?_; first | refine AOps.c2 (h := (hf ..)) (k := ?_))) | refine WO ?_ | refine All.i fun X => ?_ | refine AllY.i fun Y => ?_)); refine AOps.nil ?_; (repeat refine WN ?_)
  (repeat first | refine AOps.nil ?_ | refine WF ?_)
  refine AWP.cond_f rfl (by simp) ?_
  (repeat first | refine AOps.nil ?_ | refine WF ?_)
  (repeat refine WF ?_); refine AWP.region ?_; (repeat (first | (refine AOps.gN ?_; first | refine AOps.go (h := W.subE (v - fl) rfl (by omega) rfl rfl) (k := ?_) | refine AOps.go (h := W.toU .i64 (by kernel_rfl) (by kernel_rfl) rfl) (k := ?_) | refine AOps.eQ3 (h := hb) fun L => ?_) | refine WO ?_ | refine All.i fun X => ?_ | refine AllY.i fun Y => ?_)); refine AOps.nil ?_; (repeat refine WN ?_)
  (refine AWP.ret ?_; (repeat (first | refine inB_r ?_ | refine andThen_r ?_)); refine retQ_r ?_)
  exact Ends.sp [iA er] [(L, _), (X, _)] ⟨L, rfl, rfl⟩
end Go.Proofs.Ytbfcbfgpbbkecaa

namespace Go.Proofs.Ytbfcbfgpbbkecaa
set_option linter.unusedVariables false
theorem drop_at {α : Type} {l : List α} {i : Nat} (h : i < l.length) : l.drop i = l[i] :: l.drop (i + 1) := List.drop_eq_getElem_cons h
theorem adds_cons (u : Wr) (l : List Bool) (ls : List (List Bool)) : u.adds (l :: ls) = (u.add l).adds ls := rfl
theorem COK.gt {ks : List Kind} {i : Nat} {c : Comp} {l : List Comp} (h : COK ks i (c :: l)) (hc : (i : Int) < c.kind) : ∀ d ∈ c :: l, (i : Int) < d.kind := by
  intro d hd
  rcases List.mem_cons.1 hd with rfl | hd
  · exact hc
  · have := (List.pairwise_cons.1 h.so).1 d hd
    omega
theorem COK.tl {ks : List Kind} {i : Nat} {c : Comp} {l : List Comp} (h : COK ks i (c :: l)) : COK ks i l := ⟨(List.pairwise_cons.1 h.so).2, fun d hd => h.it d (by simp [hd])⟩
theorem valsC_drop {fs : List Field} {vs : List Int} {j : Nat} (h : j < fs.length) (h2 : j < vs.length) : valsC (fs.drop j) (vs.drop j) = bitsU (UInt64.ofInt (vs[j] - fs[j].low)) fs[j].bits.toNat :: valsC (fs.drop (j + 1)) (vs.drop (j + 1)) := by
  rw [drop_at h, drop_at h2]
  rfl
set_option maxHeartbeats 2000000 in
theorem scomps_sp (X H : Nat) (s : Wr) (ks : List Kind) (l : List Comp) (hk : ∀ k ∈ ks, KOK k) (h16 : ks.length ≤ 16) (hl : COK ks 0 l) (hll : l.length ≤ 16) (hr : s.bs.length ≤ 524288) :
    Spec Try.prog 46 [.ptr X 0 0, kindsA false false ks, compsA false false l] (wsS X H s) fun r S' => ∃ K : Nat, r = .tup [] ∧ S' = wsS X K (s.adds (compsC ks 0 l)) := by
  have hkm : (ks.map (kindA false)).length = ks.length := List.length_map _
  have hlm : (l.map (compA false)).length = l.length := List.length_map _
  obtain ⟨fin, hfin⟩ : ∃ u, s.adds (compsC ks 0 l) = u := ⟨_, rfl⟩
  rw [hfin]
  refine Spec.of (nt := 68) (res := []) Try.func46 rfl (by kernel_rfl) rfl rfl rfl fun Sf => ?_
  (repeat refine WF ?_); refine AWP.region ?_; (repeat (first | refine WO ?_ | refine All.i fun X => ?_ | refine AllY.i fun Y => ?_)); refine AOps.nil ?_; (repeat refine WN ?_)
  (repeat first | refine AOps.nil ?_ | refine WF ?_)
  (repeat refine WF ?_); refine AWP.region ?_; (repeat (first | refine WO ?_ | refine All.i fun X => ?_ | refine AllY.i fun Y => ?_)); refine AOps.nil ?_; (repeat refine WN ?_)
  (repeat first | refine AOps.nil ?_ | refine WF ?_)
  refine AWP.lp4 (fun (i q : Nat) (K : Nat) (u : Wr) => ⟨[(0, .ptr X 0 0), (1, kindsA false false ks), (2, compsA false false l), (6, iA q), (11, iA (ks.map (kindA false)).length), (12, iA i)], wsS X K u ++ Sf⟩) (fun i q K u => i ≤ ks.length ∧ q ≤ l.length ∧ u.bs.length ≤ 524288 ∧ COK (ks.drop i) i (l.drop q) ∧ u.adds (compsC (ks.drop i) i (l.drop q)) = fin) (fun i _ _ _ => ks.length - i) 0 0 H s ⟨by omega, by omega, hr, hl, hfin⟩ ?_
  rintro i q K u ⟨hi, hq, hru, hco, hu⟩
  (repeat refine WF ?_); refine AWP.region ?_; (repeat (first | refine WO ?_ | refine All.i fun X => ?_ | refine AllY.i fun Y => ?_)); refine AOps.nil ?_; (repeat refine WN ?_)
  (repeat first | refine AOps.nil ?_ | refine WF ?_)
  refine AWP.cond rfl (fun hc => ?_) (fun hc => ?_)
  · have hc : i < ks.length := by rw [decide_eq_true_eq, hkm] at hc; omega
    have hki := hk _ (List.getElem_mem hc)
    rw [drop_at hc] at hco hu
    obtain ⟨⟨kn, fs⟩, hke⟩ : ∃ k, ks[i] = k := ⟨_, rfl⟩
    rw [hke] at hki hco hu
    have hat : (ks.map (kindA false))[i]? = some (kindA false ⟨kn, fs⟩) := by rw [List.getElem?_map, List.getElem?_eq_getElem hc, hke]; rfl
    have hil : i < (ks.map (kindA false)).length := by omega
    have hfm : (fs.map fieldA).length = fs.length := List.length_map _
    have hfl8 : fs.length ≤ 8 := hki.len
    have hz := fun K => sput_sp X K u 0 1 (by decide) (by decide) hru
    have hz1 := wr_add_le hru (bitsU 0 1)
    (repeat first | refine AOps.nil ?_ | refine WF ?_)
    (repeat refine WF ?_); refine AWP.region ?_; (repeat (first | refine WO ?_ | refine All.i fun X => ?_ | refine AllY.i fun Y => ?_)); refine AOps.nil ?_; (repeat refine WN ?_)
    (repeat first | refine AOps.nil ?_ | refine WF ?_)
    by_cases hql : q = l.length
    · have hd : decide ((q : Int) = ((l.map (compA false)).length : Int)) = true := decide_eq_true (by rw [hlm, hql])
      have hdn : l.drop q = [] := List.drop_eq_nil_of_le (by omega)
      rw [hdn] at hu hco
      rw [compsC, adds_cons] at hu
      obtain ⟨u1, hu1⟩ : ∃ x, u.add (bitsU 0 1) = x := ⟨_, rfl⟩
      rw [hu1] at hz hz1 hu
      have hco' : COK (ks.drop (i + 1)) (i + 1) [] := hco.next (fun c hc => by cases hc)
      (repeat refine WF ?_); refine AWP.region ?_; (repeat (first | refine WO ?_ | refine All.i fun X => ?_ | refine AllY.i fun Y => ?_)); refine AOps.nil ?_; (repeat refine WN ?_)
      refine AWP.cond_t rfl (by simp) ?_
      (repeat first | refine AOps.nil ?_ | refine WF ?_)
      (repeat refine WF ?_); refine AWP.region ?_; (repeat (first | (refine AOps.gN ?_; first | refine AOps.eQ3 (h := hz _) fun K1 => ?_) | refine WO ?_ | refine All.i fun X => ?_ | refine AllY.i fun Y => ?_)); refine AOps.nil ?_; (repeat refine WN ?_)
      (repeat (first | refine WK ?_ | refine All.i fun X => ?_ | refine AllY.i fun Y => ?_))
      exact lp_next4 (i + 1) q K1 u1 ⟨by omega, by omega, hz1, by rw [hdn]; exact hco', by rw [hdn]; exact hu⟩ (by omega)
    · have hql : q < l.length := by omega
      have hd : decide ((q : Int) = ((l.map (compA false)).length : Int)) = false := decide_eq_false (by rw [hlm]; omega)
      have hqm : q < (l.map (compA false)).length := by omega
      have hdq := drop_at hql
      rw [hdq] at hu hco
      obtain ⟨⟨ck, cv⟩, hce⟩ : ∃ c, l[q] = c := ⟨_, rfl⟩
      rw [hce] at hu hco hdq
      have hat2 : (l.map (compA false))[q]? = some (compA false ⟨ck, cv⟩) := by rw [List.getElem?_map, List.getElem?_eq_getElem hql, hce]; rfl
      obtain ⟨hk1, hk2, k', hk3, hk4⟩ := hco.it ⟨ck, cv⟩ (by simp)
      dsimp only at hk1 hk2 hk3 hk4
      rw [compsC] at hu
      dsimp only at hu
      (repeat refine WF ?_); refine AWP.region ?_; (repeat (first | refine WO ?_ | refine All.i fun X => ?_ | refine AllY.i fun Y => ?_)); refine AOps.nil ?_; (repeat refine WN ?_)
      (repeat first | refine AOps.nil ?_ | refine WF ?_)
      refine AWP.cond rfl (fun hb => ?_) (fun hb => ?_)
      · have hb : ck ≠ (i : Int) := by simpa using hb
        rw [if_neg hb, adds_cons] at hu
        obtain ⟨u1, hu1⟩ : ∃ x, u.add (bitsU 0 1) = x := ⟨_, rfl⟩
        rw [hu1] at hz hz1 hu
        have hco' := hco.next (hco.gt (by show (i : Int) < ck; omega))
        (repeat first | refine AOps.nil ?_ | refine WF ?_)
        (repeat refine WF ?_); refine AWP.region ?_; (repeat (first | (refine AOps.gN ?_; first | refine AOps.eQ3 (h := hz _) fun K1 => ?_) | refine WO ?_ | refine All.i fun X => ?_ | refine AllY.i fun Y => ?_)); refine AOps.nil ?_; (repeat refine WN ?_)
        (repeat (first | refine WK ?_ | refine All.i fun X => ?_ | refine AllY.i fun Y => ?_))
        exact lp_next4 (i + 1) q K1 u1 ⟨by omega, by omega, hz1, by rw [hdq]; exact hco', by rw [hdq]; exact hu⟩ (by omega)
      · have hb : ck = (i : Int) := by simpa using hb
        rw [if_pos hb, adds_cons, adds_app] at hu
        have ho := fun K => sput_sp X K u 1 1 (by decide) (by decide) hru
        have ho1 := wr_add_le hru (bitsU 1 1)
        obtain ⟨u1, hu1⟩ : ∃ x, u.add (bitsU 1 1) = x := ⟨_, rfl⟩
        rw [hu1] at ho ho1 hu
        rw [show (ck - (i : Int)).toNat = 0 by omega] at hk3
        simp only [List.getElem?_cons_zero, Option.some.injEq] at hk3
        subst hk3
        have hv : VOK fs cv := hk4
        have hvl := hv.1
        have hco' := hco.tl.next (fun d hd => by
          have := (List.pairwise_cons.1 hco.so).1 d hd
          have : ck < d.kind := this
          omega)
        have hru2 := wr_adds_le (valsC fs cv) ho1
        obtain ⟨u2, hu2⟩ : ∃ x, u1.adds (valsC fs cv) = x := ⟨_, rfl⟩
        rw [hu2] at hu hru2
        (repeat first | refine AOps.nil ?_ | refine WF ?_)
        (repeat refine WF ?_); refine AWP.region ?_; (repeat (first | (refine AOps.gN ?_; first | refine AOps.eQ3 (h := ho _) fun K1 => ?_) | refine WO ?_ | refine All.i fun X => ?_ | refine AllY.i fun Y => ?_)); refine AOps.nil ?_; (repeat refine WN ?_)
        (repeat first | refine AOps.nil ?_ | refine WF ?_)
        (repeat refine WF ?_); refine AWP.region ?_; (repeat (first | refine WO ?_ | refine All.i fun X => ?_ | refine AllY.i fun Y => ?_)); refine AOps.nil ?_; (repeat refine WN ?_)
        (repeat first | refine AOps.nil ?_ | refine WF ?_)
        refine AWP.lp3 (fun (j : Nat) (K : Nat) (w : Wr) => ⟨[(0, .ptr X 0 0), (1, kindsA false false ks), (2, compsA false false l), (6, iA q), (11, iA (ks.map (kindA false)).length), (12, iA i), (36, fieldsA false fs), (37, iA (fs.map fieldA).length), (38, iA j)], wsS X K w ++ Sf⟩) (fun j K w => j ≤ fs.length ∧ w.bs.length ≤ 524288 ∧ w.adds (valsC (fs.drop j) (cv.drop j)) = u2) (fun j _ _ => fs.length - j) 0 K1 u1 ⟨by omega, ho1, hu2⟩ ?_
        rintro j K3 w ⟨hj, hrw, hw⟩
        (repeat refine WF ?_); refine AWP.region ?_; (repeat (first | refine WO ?_ | refine All.i fun X => ?_ | refine AllY.i fun Y => ?_)); refine AOps.nil ?_; (repeat refine WN ?_)
        (repeat first | refine AOps.nil ?_ | refine WF ?_)
        refine AWP.cond rfl (fun hd => ?_) (fun hd => ?_)
        · have hd : j < fs.length := by rw [decide_eq_true_eq, hfm] at hd; omega
          have hd2 : j < cv.length := by omega
          have hfe := hki.fs _ (List.getElem_mem hd)
          rw [valsC_drop hd hd2, adds_cons] at hw
          obtain ⟨v1, v2, v3, v4⟩ := hv.2 (fs[j], cv[j]) (by
            have : (fs.zip cv)[j]'(by rw [List.length_zip]; omega) = (fs[j], cv[j]) := List.getElem_zip
            rw [← this]
            exact List.getElem_mem _)
          dsimp only at v1 v2 v3 v4
          obtain ⟨g1, g2, g3, g4, g5⟩ := fieldErr_sv hfe
          have hat3 : (cv.map iA)[j]? = some (iA cv[j]) := by rw [List.getElem?_map, List.getElem?_eq_getElem hd2]; rfl
          have hat4 : (fs.map fieldA)[j]? = some (fieldA fs[j]) := by rw [List.getElem?_map, List.getElem?_eq_getElem hd]; rfl
          obtain ⟨v, hve⟩ : ∃ v, cv[j] = v := ⟨_, rfl⟩
          obtain ⟨f, hfg⟩ : ∃ f, fs[j] = f := ⟨_, rfl⟩
          rw [hve, hfg] at v3 v4 hw
          rw [hve] at hat3
          rw [hfg] at v1 v2 g1 g2 g3 g4 g5 hat4
          obtain ⟨bs2, e2⟩ := w
          have hrw2 : bs2.length ≤ 524288 := hrw
          have hjl : j < (fs.map fieldA).length := by omega
          have hjl2 : j < (cv.map iA).length := by rw [List.length_map]; omega
          have hrn := wr_add_le hrw (bitsU (UInt64.ofInt (v - f.low)) f.bits.toNat)
          (repeat first | refine AOps.nil ?_ | refine WF ?_)
          (repeat refine WF ?_); refine AWP.region ?_; (repeat (first | refine WO ?_ | refine All.i fun V2 => ?_ | refine AllY.i fun Y => ?_)); refine AOps.nil ?_; (repeat refine WN ?_)
          (repeat first | refine AOps.nil ?_ | refine WF ?_)
          (repeat refine WF ?_); refine AWP.region ?_; (repeat (first | refine WO ?_ | refine All.i fun X => ?_ | refine AllY.i fun Y => ?_)); refine AOps.nil ?_; (repeat refine WN ?_)
          (repeat first | refine AOps.nil ?_ | refine WF ?_)
          refine AWP.cond rfl (fun he => ?_) (fun he => ?_)
          · have he : e2 = 0 := by simpa using he
            rw [wr_add_ok he] at hw hrn
            have hq3 := qput_sp 58 3 e2 X K3 bs2 f v g2 g3 g4 g5 v3 v4 hrw2
            change (Wr.mk (addB bs2 (bitsU (UInt64.ofInt (v - f.low)) f.bits.toNat)) (addE bs2 (bitsU (UInt64.ofInt (v - f.low)) f.bits.toNat))).adds _ = _ at hw
            change (addB bs2 (bitsU (UInt64.ofInt (v - f.low)) f.bits.toNat)).length ≤ _ at hrn
            obtain ⟨er, her⟩ : ∃ x, addE bs2 (bitsU (UInt64.ofInt (v - f.low)) f.bits.toNat) = x := ⟨_, rfl⟩
            obtain ⟨ds, hds⟩ : ∃ x, addB bs2 (bitsU (UInt64.ofInt (v - f.low)) f.bits.toNat) = x := ⟨_, rfl⟩
            rw [her, hds] at hq3 hw
            rw [hds] at hrn
            (repeat first | refine AOps.nil ?_ | refine WF ?_)
            (repeat refine WF ?_); refine AWP.region_runE (by kernel_rfl) (by kernel_rfl) ?_; (repeat refine RGoE.go ?_)
            refine RGoE.eQ3 (h := hq3) (fun K6 => ?_)
            (repeat (first | refine RK ?_ | refine RGo.nil (by kernel_rfl) ?_))
            (repeat first | refine AOps.nil ?_ | refine WF ?_)
            (repeat refine WF ?_); refine AWP.region ?_; (repeat (first | refine WO ?_ | refine All.i fun X => ?_ | refine AllY.i fun Y => ?_)); refine AOps.nil ?_; (repeat refine WN ?_)
            exact lp_next3 (j + 1) K6 ⟨ds, er⟩ ⟨by omega, hrn, hw⟩ (by omega)
          · have he : e2 ≠ 0 := by simpa using he
            rw [wr_add_no he] at hw
            (repeat (first | refine WK ?_ | refine All.i fun X => ?_ | refine AllY.i fun Y => ?_))
            exact lp_next3 (j + 1) K3 ⟨bs2, e2⟩ ⟨by omega, hrw, hw⟩ (by omega)
        · have hd : j = fs.length := by rw [decide_eq_false_iff_not, hfm] at hd; omega
          have hdn : fs.drop j = [] := List.drop_eq_nil_of_le (by omega)
          rw [hdn] at hw
          have hw : w = u2 := hw
          subst hw
          (repeat (first | refine WK ?_ | refine All.i fun X => ?_ | refine AllY.i fun Y => ?_))
          exact lp_next4 (i + 1) (q + 1) K3 w ⟨by omega, by omega, hru2, hco', hu⟩ (by omega)
  · have hc : i = ks.length := by rw [decide_eq_false_iff_not, hkm] at hc; omega
    have hdn : ks.drop i = [] := List.drop_eq_nil_of_le (by omega)
    rw [hdn] at hu
    have hu : u = fin := hu
    subst hu
    (repeat (first | refine WK ?_ | refine All.i fun X => ?_ | refine AllY.i fun Y => ?_))
    refine retQ_n ?_
    exact Ends.void [(K, _), (X, _)] ⟨K, rfl, rfl⟩
end Go.Proofs.Ytbfcbfgpbbkecaa

namespace Go.Proofs.Ytbfcbfgpbbkecaa
set_option linter.unusedVariables false
theorem qget_sp (R : Nat) (b : List UInt8) (p : Nat) (f : Field) (h1 : 1 ≤ f.bits) (h2 : f.bits ≤ 32) (h3 : -4294967296 ≤ f.low) (h4 : f.low ≤ 4294967296) (hb : b.length ≤ 65536) (hp : p ≤ 8 * b.length) :
    Spec Try.prog 57 [.ptr R 0 0, fieldA f] [(R, brO b p)] fun r S' => r = .tup [iA (if (getR b f.bits.toNat p).2.1 ≠ 0 then 0 else f.low + ((getR b f.bits.toNat p).1.toNat : Int)), iA (getR b f.bits.toNat p).2.1] ∧ S' = [(R, brO b (getR b f.bits.toNat p).2.2)] := by
  have hc := qcheck_ps f (by omega) h2 h3 h4
  obtain ⟨fn, fb, fl⟩ := f
  dsimp only at h1 h2 h3 h4
  obtain ⟨n, rfl⟩ : ∃ n : Nat, fb = n := ⟨fb.toNat, by omega⟩
  have hn : ((n : Int)).toNat = n := rfl
  dsimp only
  rw [hn]
  have g1 := bget_sp R b p n hb hp (by omega)
  have g2 := getR_lt b p n (by omega)
  obtain ⟨⟨v, e, q⟩, hz⟩ : ∃ z, getR b n p = z := ⟨_, rfl⟩
  rw [hz] at g1 g2 ⊢
  dsimp only at g1 g2 ⊢
  have hp2 : 2 ^ n ≤ 4294967296 := by
    have : ∀ n, n ≤ 32 → 2 ^ n ≤ 4294967296 := by decide
    exact this n (by omega)
  refine Spec.of (nt := 29) (res := [.tmp 4, .tmp 5]) Try.func57 rfl (by kernel_rfl) rfl rfl rfl fun Sf => ?_
  (repeat refine WF ?_); refine AWP.region ?_; (repeat (first | refine WO ?_ | refine All.i fun B => ?_ | refine AllY.i fun Y => ?_)); refine AOps.nil ?_; (repeat refine WN ?_)
  (repeat first | refine AOps.nil ?_ | refine WF ?_)
  (repeat refine WF ?_); refine AWP.region ?_; (repeat (first | (refine AOps.gN ?_; first | (refine AOps.g_callf ?_; first | refine AOps.c1 (h := (hc ..)) (k := ?_))) | refine WO ?_ | refine All.i fun X => ?_ | refine AllY.i fun Y => ?_)); refine AOps.nil ?_; (repeat refine WN ?_)
  (repeat first | refine AOps.nil ?_ | refine WF ?_)
  (repeat refine WF ?_); refine AWP.region ?_; (repeat (first | refine WO ?_ | refine All.i fun X => ?_ | refine AllY.i fun Y => ?_)); refine AOps.nil ?_; (repeat refine WN ?_)
  (repeat first | refine AOps.nil ?_ | refine WF ?_)
  refine AWP.cond_f rfl rfl ?_
  (repeat first | refine AOps.nil ?_ | refine WF ?_)
  (repeat refine WF ?_); refine AWP.region ?_; (repeat (first | (refine AOps.gN ?_; first | (refine AOps.g_callf ?_; first | refine AOps.z2 (h := g1) (hT := .fz) (k := ?_))) | refine WO ?_ | refine All.i fun X => ?_ | refine AllY.i fun Y => ?_)); refine AOps.nil ?_; (repeat refine WN ?_)
  (repeat first | refine AOps.nil ?_ | refine WF ?_)
  (repeat refine WF ?_); refine AWP.region ?_; (repeat (first | refine WO ?_ | refine All.i fun X => ?_ | refine AllY.i fun Y => ?_)); refine AOps.nil ?_; (repeat refine WN ?_)
  (repeat first | refine AOps.nil ?_ | refine WF ?_)
  refine AWP.cond rfl (fun hd => ?_) (fun hd => ?_)
  · have hd : e ≠ 0 := by simpa using hd
    rw [if_pos hd]
    (repeat (first | refine WK ?_ | refine All.i fun X => ?_ | refine AllY.i fun Y => ?_))
    (refine AWP.ret ?_; (repeat (first | refine inB_r ?_ | refine andThen_r ?_)); refine retQ_r ?_)
    exact Ends.sp [iA 0, iA e] [(R, _)] ⟨rfl, rfl⟩
  · have hd : e = 0 := by simpa using hd
    rw [if_neg (by simp [hd])]
    subst hd
    (repeat first | refine AOps.nil ?_ | refine WF ?_)
    (repeat refine WF ?_); refine AWP.region ?_; (repeat (first | (refine AOps.gN ?_; first | refine AOps.go (h := W.ofUN .u64 (by omega) (by kernel_rfl) (by kernel_rfl) rfl) (k := ?_) | refine AOps.go (h := W.addE (fl + ((v.toNat : Nat) : Int)) rfl (by omega) rfl rfl) (k := ?_)) | refine WO ?_ | refine All.i fun X => ?_ | refine AllY.i fun Y => ?_)); refine AOps.nil ?_; (repeat refine WN ?_)
    (refine AWP.ret ?_; (repeat (first | refine inB_r ?_ | refine andThen_r ?_)); refine retQ_r ?_)
    exact Ends.sp [iA (fl + ((v.toNat : Nat) : Int)), iA 0] [(R, _)] ⟨rfl, rfl⟩
theorem valsGo_le {b : List UInt8} : ∀ (fs : List Field) (s : RdS) (o : List Int), s.p ≤ 8 * b.length → (valsGo b fs s o).2.p ≤ 8 * b.length
  | [], s, o, h => h
  | f :: fs, s, o, h => valsGo_le fs _ _ (getR_le h)
theorem compsGo_le {b : List UInt8} : ∀ (ks : List Kind) (i : Nat) (s : RdS) (o : List Comp), s.p ≤ 8 * b.length → (compsGo b ks i s o).2.p ≤ 8 * b.length
  | [], i, s, o, h => h
  | k :: ks, i, s, o, h => by
    rw [compsGo]
    split
    · exact compsGo_le ks _ _ _ (get_le h)
    · exact compsGo_le ks _ _ _ (valsGo_le _ _ _ (get_le h))
set_option maxHeartbeats 2000000 in
theorem rcomps_sp (R X : Nat) (b : List UInt8) (s : RdS) (ks : List Kind) (hk : ∀ k ∈ ks, KOK k) (h16 : ks.length ≤ 16) (hb : b.length ≤ 65536) (hp : s.p ≤ 8 * b.length) : Spec Try.prog 40 [.ptr X 0 0, kindsA false false ks] (rdSl R X b s) fun r S' => r = compsA false false (compsGo b ks 0 s []).1 ∧ S' = rdSl R X b (compsGo b ks 0 s []).2 := by
  have hkm : (ks.map (kindA false)).length = ks.length := List.length_map _
  obtain ⟨⟨CS, s2⟩, hg⟩ : ∃ z, compsGo b ks 0 s [] = z := ⟨_, rfl⟩
  rw [hg]
  dsimp only
  refine Spec.of (nt := 65) (res := [.tmp 4]) Try.func40 rfl (by kernel_rfl) rfl rfl rfl fun Sf => ?_
  (repeat refine WF ?_); refine AWP.region ?_; (repeat (first | refine WO ?_ | refine All.i fun X => ?_ | refine AllY.i fun Y => ?_)); refine AOps.nil ?_; (repeat refine WN ?_)
  (repeat first | refine AOps.nil ?_ | refine WF ?_)
  (repeat refine WF ?_); refine AWP.region ?_; (repeat (first | refine WO ?_ | refine All.i fun X => ?_ | refine AllY.i fun Y => ?_)); refine AOps.nil ?_; (repeat refine WN ?_)
  (repeat first | refine AOps.nil ?_ | refine WF ?_)
  (repeat refine WF ?_); refine AWP.region ?_; (repeat (first | refine WO ?_ | refine All.i fun X => ?_ | refine AllY.i fun Y => ?_)); refine AOps.nil ?_; (repeat refine WN ?_)
  (repeat first | refine AOps.nil ?_ | refine WF ?_)
  refine AWP.adopt (d := 5) 83 2 rfl fun H => ?_
  refine AWP.lp4 (fun (i K : Nat) (o : List Comp) (s : RdS) => ⟨[(0, .ptr X 0 0), (1, kindsA false false ks), (5, .sl K 0 o.length), (13, iA (ks.map (kindA false)).length), (14, iA i)], (K, .row 83 2 (o.map (compA false))) :: (rdSl R X b s ++ Sf)⟩) (fun i K o s => i ≤ ks.length ∧ o.length ≤ i ∧ s.p ≤ 8 * b.length ∧ compsGo b (ks.drop i) i s o = (CS, s2)) (fun i _ _ _ => ks.length - i) 0 H [] s ⟨by omega, by simp, hp, hg⟩ ?_
  rintro i K o s ⟨hi, hol, hsp, hgo⟩
  have hpm : o.length = (o.map (compA false)).length := by rw [List.length_map]
  (repeat refine WF ?_); refine AWP.region ?_; (repeat (first | refine WO ?_ | refine All.i fun X => ?_ | refine AllY.i fun Y => ?_)); refine AOps.nil ?_; (repeat refine WN ?_)
  (repeat first | refine AOps.nil ?_ | refine WF ?_)
  refine AWP.cond rfl (fun hc => ?_) (fun hc => ?_)
  · have hc : i < ks.length := by rw [decide_eq_true_eq, hkm] at hc; omega
    have hki := hk _ (List.getElem_mem hc)
    rw [drop_at hc] at hgo
    obtain ⟨⟨kn, fs⟩, hke⟩ : ∃ k, ks[i] = k := ⟨_, rfl⟩
    rw [hke] at hki hgo
    have hat : (ks.map (kindA false))[i]? = some (kindA false ⟨kn, fs⟩) := by rw [List.getElem?_map, List.getElem?_eq_getElem hc, hke]; rfl
    have hil : i < (ks.map (kindA false)).length := by omega
    have hfm : (fs.map fieldA).length = fs.length := List.length_map _
    have hfl8 : fs.length ≤ 8 := hki.len
    have g3 := rget_sp R X b s 1 hb hsp (by decide)
    have g4 := get_lt (b := b) (s := s) (n := 1) (by decide)
    have g5 := get_le (b := b) (s := s) (n := 1) hsp
    rw [compsGo] at hgo
    obtain ⟨⟨fc, sf⟩, hv2⟩ : ∃ z, s.get b 1 = z := ⟨_, rfl⟩
    rw [hv2] at g3 g4 g5 hgo
    dsimp only at g3 g4 g5 hgo
    (repeat first | refine AOps.nil ?_ | refine WF ?_)
    (repeat refine WF ?_); refine AWP.region ?_; (repeat (first | refine WO ?_ | refine All.i fun X => ?_ | refine AllY.i fun Y => ?_)); refine AOps.nil ?_; (repeat refine WN ?_)
    (repeat first | refine AOps.nil ?_ | refine WF ?_)
    (repeat refine WF ?_); refine AWP.region ?_; (repeat (first | (refine AOps.gN ?_; first | (refine AOps.g_callf ?_; first | refine AOps.z2 (h := g3) (hT := .fz) (k := ?_))) | refine WO ?_ | refine All.i fun X => ?_ | refine AllY.i fun Y => ?_)); refine AOps.nil ?_; (repeat refine WN ?_)
    (repeat first | refine AOps.nil ?_ | refine WF ?_)
    refine AWP.cond rfl (fun hd => ?_) (fun hd => ?_)
    · have hd : fc = 0 := by rw [decide_eq_true_eq] at hd; omega
      rw [if_pos hd] at hgo
      (repeat (first | refine WK ?_ | refine All.i fun X => ?_ | refine AllY.i fun Y => ?_))
      exact lp_next4 (i + 1) K o sf ⟨by omega, by omega, g5, hgo⟩ (by omega)
    · have hd : fc ≠ 0 := by rw [decide_eq_false_iff_not] at hd; omega
      rw [if_neg hd] at hgo
      have g6 := valsGo_le fs sf [] g5
      obtain ⟨⟨VS, sg⟩, hv3⟩ : ∃ z, valsGo b fs sf [] = z := ⟨_, rfl⟩
      rw [hv3] at hgo g6
      dsimp only at hgo g6
      (repeat first | refine AOps.nil ?_ | refine WF ?_)
      (repeat refine WF ?_); refine AWP.region ?_; (repeat (first | refine WO ?_ | refine All.i fun Y => ?_ | refine AllY.i fun Y => ?_)); refine AOps.nil ?_; (repeat refine WN ?_)
      (repeat first | refine AOps.nil ?_ | refine WF ?_)
      refine AWP.adoptIn (Y := Y) 3 1 .here (fun F => .cons (.agg (.cons .same (.cons (.base .nil) .nil))) .nil) fun F => ?_
      (repeat refine WF ?_); refine AWP.region ?_; (repeat (first | refine WO ?_ | refine All.i fun X => ?_ | refine AllY.i fun Y => ?_)); refine AOps.nil ?_; (repeat refine WN ?_)
      (repeat first | refine AOps.nil ?_ | refine WF ?_)
      refine AWP.lp4 (fun (j F : Nat) (vs : List Int) (s : RdS) => ⟨[(0, .ptr X 0 0), (1, kindsA false false ks), (5, .sl K 0 o.length), (7, .ptr Y 0 0), (13, iA (ks.map (kindA false)).length), (14, iA i), (26, fieldsA false fs), (27, iA (fs.map fieldA).length), (28, iA j)], (F, .row 3 1 (vs.map iA)) :: (Y, .row 83 2 [.agg [iA i, .sl F 0 j]]) :: (K, .row 83 2 (o.map (compA false))) :: (rdSl R X b s ++ Sf)⟩) (fun j F vs s => j ≤ fs.length ∧ vs.length = j ∧ s.p ≤ 8 * b.length ∧ valsGo b (fs.drop j) s vs = (VS, sg)) (fun j _ _ _ => fs.length - j) 0 F [] sf ⟨by omega, rfl, g5, hv3⟩ ?_
      rintro j F vs t ⟨hj, hvl, htp, hvo⟩
      have hvm : j = (vs.map iA).length := by rw [List.length_map, hvl]
      (repeat refine WF ?_); refine AWP.region ?_; (repeat (first | refine WO ?_ | refine All.i fun X => ?_ | refine AllY.i fun Y => ?_)); refine AOps.nil ?_; (repeat refine WN ?_)
      (repeat first | refine AOps.nil ?_ | refine WF ?_)
      refine AWP.cond rfl (fun he => ?_) (fun he => ?_)
      · have he : j < fs.length := by rw [decide_eq_true_eq, hfm] at he; omega
        have hfe := hki.fs _ (List.getElem_mem he)
        have hjl : j < (fs.map fieldA).length := by omega
        have hat4 : (fs.map fieldA)[j]? = some (fieldA fs[j]) := by rw [List.getElem?_map, List.getElem?_eq_getElem he]; rfl
        rw [drop_at he, valsGo] at hvo
        obtain ⟨f, hfg⟩ : ∃ f, fs[j] = f := ⟨_, rfl⟩
        obtain ⟨m1, m2, m3, m4, m5⟩ := fieldErr_sv hfe
        rw [hfg] at m1 m2 m3 m4 m5 hat4 hvo
        obtain ⟨tp, tbad⟩ := t
        dsimp only at hvo
        have htp : tp ≤ 8 * b.length := htp
        have q1 := qget_sp R b tp f m2 m3 m4 m5 hb htp
        have q2 := getR_le (b := b) (p := tp) (n := f.bits.toNat) htp
        obtain ⟨⟨v, e, q⟩, hz⟩ : ∃ z, getR b f.bits.toNat tp = z := ⟨_, rfl⟩
        rw [hz] at q1 q2 hvo
        dsimp only at q1 q2 hvo
        obtain ⟨w, hw⟩ : ∃ w, (if e ≠ 0 then 0 else f.low + ((v.toNat : Nat) : Int)) = w := ⟨_, rfl⟩
        rw [hw] at q1 hvo
        (repeat first | refine AOps.nil ?_ | refine WF ?_)
        (repeat refine WF ?_); refine AWP.region ?_; (repeat (first | refine WO ?_ | refine All.i fun V => ?_ | refine AllY.i fun Y => ?_)); refine AOps.nil ?_; (repeat refine WN ?_)
        (repeat first | refine AOps.nil ?_ | refine WF ?_)
        (repeat refine WF ?_); refine AWP.region_run (by kernel_rfl) (by kernel_rfl) ?_; (repeat (first | (refine RGo.gN ?_; first | (refine RGo.g_callf ?_; first | refine RGo.z2 (h := q1) (hT := .fz) (k := ?_))) | (refine RGo.gQ ?_; first | (refine RGo.g_callf ?_; first | refine RGo.z2 (h := q1) (hT := .fz) (k := ?_))) | refine RK ?_ | refine RGo.nil (by kernel_rfl) ?_))
        (repeat first | refine AOps.nil ?_ | refine WF ?_)
        (repeat refine WF ?_); refine AWP.region ?_; (repeat (first | refine WO ?_ | refine All.i fun X => ?_ | refine AllY.i fun Y => ?_)); refine AOps.nil ?_; (repeat refine WN ?_)
        (repeat first | refine AOps.nil ?_ | refine WF ?_)
        (repeat refine WF ?_); refine AWP.region ?_; (repeat (first | (refine AOps.gN ?_; first | (refine AOps.g_lit ?_; refine AOps.goL (iA w) ?_)) | refine WO ?_ | refine All.i fun X => ?_ | refine AllY.i fun Y => ?_)); refine AOps.nil ?_; (repeat refine WN ?_)
        have hma : vs.map iA ++ [iA w] = (vs ++ [w]).map iA := by simp
        rw [hma]
        (repeat first | refine AOps.nil ?_ | refine WF ?_)
        (repeat refine WF ?_); refine AWP.region ?_; (repeat (first | refine WO ?_ | refine All.i fun X => ?_ | refine AllY.i fun Y => ?_)); refine AOps.nil ?_; (repeat refine WN ?_)
        exact lp_next4 (j + 1) Y (vs ++ [w]) ⟨q, tbad || decide (e ≠ 0)⟩ ⟨by omega, by rw [List.length_append, hvl]; rfl, q2, hvo⟩ (by omega)
      · have he : j = fs.length := by rw [decide_eq_false_iff_not, hfm] at he; omega
        have hdn : fs.drop j = [] := List.drop_eq_nil_of_le (by omega)
        rw [hdn] at hvo
        have hvo : (vs, t) = (VS, sg) := hvo
        injection hvo with e1 e2
        subst e1 e2
        (repeat first | refine AOps.nil ?_ | refine WF ?_)
        refine AWP.iceIn (X := F) (Y := Y) .here (.next .here) rfl (.cons (.agg (.cons .same (.cons (.base (.sl (by omega))) .nil))) .nil) ?_
        have hF : AV.frzs (((vs.map iA).drop 0).take j) = vs.map iA := by
          rw [List.drop_zero, List.take_of_length_le (by omega)]
          exact Frzs.h
        rw [hF]
        (repeat refine WF ?_); refine AWP.region ?_; (repeat (first | (refine AOps.gN ?_; first | (refine AOps.g_lit ?_; refine AOps.goL (compA false ⟨i, vs⟩) ?_)) | refine WO ?_ | refine All.i fun X => ?_ | refine AllY.i fun Y => ?_)); refine AOps.nil ?_; (repeat refine WN ?_)
        have hma : o.map (compA false) ++ [compA false ⟨i, vs⟩] = (o ++ [(⟨i, vs⟩ : Comp)]).map (compA false) := by simp
        have hml : o.length + [compA false ⟨i, vs⟩].length = (o ++ [(⟨i, vs⟩ : Comp)]).length := by simp
        rw [hma, hml]
        (repeat first | refine AOps.nil ?_ | refine WF ?_)
        (repeat refine WF ?_); refine AWP.region ?_; (repeat (first | refine WO ?_ | refine All.i fun X => ?_ | refine AllY.i fun Y => ?_)); refine AOps.nil ?_; (repeat refine WN ?_)
        exact lp_next4 (i + 1) Y (o ++ [⟨i, vs⟩]) t ⟨by omega, by rw [List.length_append, List.length_singleton]; omega, htp, hgo⟩ (by omega)
  · have hc : i = ks.length := by rw [decide_eq_false_iff_not, hkm] at hc; omega
    have hdn : ks.drop i = [] := List.drop_eq_nil_of_le (by omega)
    rw [hdn] at hgo
    have hgo : (o, s) = (CS, s2) := hgo
    injection hgo with e1 e2
    subst e1 e2
    (repeat first | refine AOps.nil ?_ | refine WF ?_)
    refine AWP.ice (d := 5) rfl .here hpm ?_
    have hF : AV.frzs (o.map (compA false)) = o.map (compA false) := Frzs.h
    rw [hF]
    (repeat refine WF ?_); refine AWP.region ?_; (repeat (first | refine WO ?_ | refine All.i fun X => ?_ | refine AllY.i fun Y => ?_)); refine AOps.nil ?_; (repeat refine WN ?_)
    (refine AWP.ret ?_; (repeat (first | refine inB_r ?_ | refine andThen_r ?_)); refine retQ_r ?_)
    exact Ends.sp [compsA false false o] [(R, _), (X, _)] ⟨rfl, rfl⟩
end Go.Proofs.Ytbfcbfgpbbkecaa

namespace Go.Proofs.Ytbfcbfgpbbkecaa
set_option linter.unusedVariables false
set_option maxHeartbeats 2000000 in
theorem ritems_sp (R X : Nat) (b : List UInt8) (s : RdS) (ks : List Kind) (hk : ∀ k ∈ ks, KOK k) (h16 : ks.length ≤ 16) (hs : s.bad = false) (hb : b.length ≤ 65536) (hp : s.p ≤ 8 * b.length) : Spec Try.prog 22 [.ptr X 0 0, kindsA false false ks] (rdSl R X b s) fun r S' => r = wdA false ⟨ks, (slotsR b ks s).1, (slotsR b ks s).2.1⟩ ∧ S' = rdSl R X b (slotsR b ks s).2.2 := by
  have h1 := rget_sp R X b s 9 hb hp (by decide)
  have h2 := get_lt (b := b) (s := s) (n := 9) (by decide)
  have h3 := get_le (b := b) (s := s) (n := 9) hp
  unfold slotsR
  obtain ⟨⟨c, s1⟩, hz⟩ : ∃ z, s.get b 9 = z := ⟨_, rfl⟩
  rw [hz] at h1 h2 h3 ⊢
  dsimp only at h1 h2 h3 ⊢
  obtain ⟨⟨GS, IS, s2⟩, hg⟩ : ∃ z, slotsGo b ks c 0 s1 [] [] = z := ⟨_, rfl⟩
  rw [hg]
  dsimp only
  refine Spec.of (nt := 69) (res := [.cell 4 29]) Try.func22 rfl (by kernel_rfl) rfl rfl rfl fun Sf => ?_
  (repeat refine WF ?_); refine AWP.region ?_; (repeat (first | refine WO ?_ | refine All.i fun Z => ?_ | refine AllY.i fun Y => ?_)); refine AOps.nil ?_; (repeat refine WN ?_)
  (repeat first | refine AOps.nil ?_ | refine WF ?_)
  (repeat refine WF ?_); refine AWP.region ?_; (repeat (first | refine WO ?_ | refine All.i fun V => ?_ | refine AllY.i fun Y => ?_)); refine AOps.nil ?_; (repeat refine WN ?_)
  (repeat first | refine AOps.nil ?_ | refine WF ?_)
  refine AWP.adoptIn (Y := V) 3 1 .here (fun F => .cons (.agg (.cons .same (.cons (.base .nil) (.cons .same .nil)))) .nil) fun G => ?_
  refine AWP.adoptIn (Y := V) 73 3 (.next .here) (fun F => .cons (.agg (.cons .same (.cons .same (.cons (.base .nil) .nil)))) .nil) fun I => ?_
  (repeat refine WF ?_); refine AWP.region ?_; (repeat (first | (refine AOps.gN ?_; first | (refine AOps.g_callf ?_; first | refine AOps.z2 (h := h1) (hT := .fz) (k := ?_))) | refine WO ?_ | refine All.i fun X => ?_ | refine AllY.i fun Y => ?_)); refine AOps.nil ?_; (repeat refine WN ?_)
  (repeat first | refine AOps.nil ?_ | refine WF ?_)
  refine AWP.lp4 (fun (i G I : Nat) (z : List Int × List Item × RdS) => ⟨[(0, .ptr X 0 0), (1, kindsA false false ks), (4, .ptr Z 0 0), (5, .ptr V 0 0), (12, iA c), (13, iA i)], (I, .row 73 3 (z.2.1.map (itemA false))) :: (G, .row 3 1 (z.1.map iA)) :: (V, .row 29 3 [.agg [kindsA false false ks, .sl G 0 z.1.length, .sl I 0 z.2.1.length]]) :: (Z, .row 29 3 [.agg [.prim (.slice none 0 0), .prim (.slice none 0 0), .prim (.slice none 0 0)]]) :: (rdSl R X b z.2.2 ++ Sf)⟩) (fun i G I z => i ≤ c ∧ z.1.length ≤ i ∧ z.2.1.length ≤ i ∧ z.2.2.p ≤ 8 * b.length ∧ slotsGo b ks (c - i) i z.2.2 z.1 z.2.1 = (GS, IS, s2)) (fun i _ _ _ => c - i) 0 G I ([], [], s1) ⟨by omega, by simp, by simp, h3, hg⟩ ?_
  rintro i G I ⟨gs, its, s⟩ ⟨hi, hgl, hil, hsp, hgo⟩
  dsimp only at hgl hil hsp hgo ⊢
  have hgm : gs.length = (gs.map iA).length := by rw [List.length_map]
  have him : its.length = (its.map (itemA false)).length := by rw [List.length_map]
  (repeat refine WF ?_); refine AWP.region ?_; (repeat (first | refine WO ?_ | refine All.i fun X => ?_ | refine AllY.i fun Y => ?_)); refine AOps.nil ?_; (repeat refine WN ?_)
  (repeat first | refine AOps.nil ?_ | refine WF ?_)
  refine AWP.cond rfl (fun hc => ?_) (fun hc => ?_)
  · have hc : i < c := by rw [decide_eq_true_eq] at hc; omega
    obtain ⟨sp, sb⟩ := s
    have hsp : sp ≤ 8 * b.length := hsp
    have g1 := brnat_sp R b sp hb hsp
    have g2 := natR_le (b := b) (p := sp) hsp
    rw [show c - i = (c - (i + 1)) + 1 by omega, slotsGo] at hgo
    unfold natBad at hgo
    dsimp only at hgo
    obtain ⟨⟨v, e, q⟩, hv⟩ : ∃ z, natR b sp = z := ⟨_, rfl⟩
    rw [hv] at g1 g2 hgo
    dsimp only at g1 g2 hgo
    (repeat first | refine AOps.nil ?_ | refine WF ?_)
    (repeat refine WF ?_); refine AWP.region ?_; (repeat (first | refine WO ?_ | refine All.i fun X => ?_ | refine AllY.i fun Y => ?_)); refine AOps.nil ?_; (repeat refine WN ?_)
    (repeat first | refine AOps.nil ?_ | refine WF ?_)
    (repeat refine WF ?_); refine AWP.region ?_; (repeat (first | (refine AOps.gN ?_; first | (refine AOps.g_callf ?_; first | refine AOps.z1 (h := g1) (hT := .fz) (k := ?_))) | refine WO ?_ | refine All.i fun X => ?_ | refine AllY.i fun Y => ?_)); refine AOps.nil ?_; (repeat refine WN ?_)
    (repeat first | refine AOps.nil ?_ | refine WF ?_)
    (repeat refine WF ?_); refine AWP.region ?_; (repeat (first | refine WO ?_ | refine All.i fun X => ?_ | refine AllY.i fun Y => ?_)); refine AOps.nil ?_; (repeat refine WN ?_)
    (repeat first | refine AOps.nil ?_ | refine WF ?_)
    (repeat refine WF ?_); refine AWP.region ?_; (repeat (first | refine WO ?_ | refine All.i fun X => ?_ | refine AllY.i fun Y => ?_)); refine AOps.nil ?_; (repeat refine WN ?_)
    (repeat first | refine AOps.nil ?_ | refine WF ?_)
    have hcast : decide ((1073741824 : Int) < ((v.toNat : Nat) : Int)) = decide (1073741824 < v.toNat) := decide_eq_decide.2 (by omega)
    have hI : AV.frzs (((its.map (itemA false)).drop 0).take its.length) = its.map (itemA false) := by
      rw [List.drop_zero, List.take_of_length_le (by omega)]
      exact Frzs.h
    have hG : AV.frzs (((gs.map iA).drop 0).take gs.length) = gs.map iA := by
      rw [List.drop_zero, List.take_of_length_le (by omega)]
      exact Frzs.h
    refine AWP.cond rfl (fun hd => ?_) (fun hd => ?_)
    · have hd' := hd
      rw [hcast] at hd'
      rw [if_pos hd'] at hgo
      injection hgo with e1 e2
      injection e2 with e2 e3
      subst e1 e2 e3
      rw [hd]
      (repeat first | refine AOps.nil ?_ | refine WF ?_)
      refine AWP.iceIn (X := I) (Y := V) .here (.next (.next .here)) rfl (.cons (.agg (.cons .same (.cons .same (.cons (.base (.sl (by omega))) .nil)))) .nil) ?_
      rw [hI]
      refine AWP.iceIn (X := G) (Y := V) (.next .here) (.next (.next .here)) rfl (.cons (.agg (.cons .same (.cons (.base (.sl (by omega))) (.cons .same .nil)))) .nil) ?_
      rw [hG]
      (repeat refine WF ?_); refine AWP.region ?_; (repeat (first | refine WO ?_ | refine All.i fun X => ?_ | refine AllY.i fun Y => ?_)); refine AOps.nil ?_; (repeat refine WN ?_)
      (refine AWP.ret ?_; (repeat (first | refine inB_r ?_ | refine andThen_r ?_)); refine retQ_r ?_)
      exact Ends.sp [wdA false ⟨ks, gs, its⟩] [(R, _), (X, _)] ⟨rfl, rfl⟩
    · have hd' := hd
      rw [hcast] at hd'
      rw [if_neg (by rw [hd']; simp)] at hgo
      have hv30 : v.toNat ≤ 1073741824 := by
        simp only [Bool.or_eq_false_iff, decide_eq_false_iff_not] at hd'
        omega
      have k3 := rget_sp R X b ⟨q, false⟩ 1 hb g2 (by decide)
      have k4 := get_lt (b := b) (s := ⟨q, false⟩) (n := 1) (by decide)
      have k5 := get_le (b := b) (s := ⟨q, false⟩) (n := 1) g2
      obtain ⟨⟨w, sw⟩, hw⟩ : ∃ z, RdS.get b ⟨q, false⟩ 1 = z := ⟨_, rfl⟩
      rw [hw] at k3 k4 k5 hgo
      dsimp only at k3 k4 k5 hgo
      have hma : gs.map iA ++ [iA ((v.toNat : Nat) : Int)] = (gs ++ [((v.toNat : Nat) : Int)]).map iA := by simp
      have hml : gs.length + [iA ((v.toNat : Nat) : Int)].length = (gs ++ [((v.toNat : Nat) : Int)]).length := by simp
      rw [hd]
      (repeat first | refine AOps.nil ?_ | refine WF ?_)
      (repeat refine WF ?_); refine AWP.region ?_; (repeat (first | (refine AOps.gN ?_; first | refine AOps.go (h := W.ofUN .u64 (by omega) (by kernel_rfl) (by kernel_rfl) rfl) (k := ?_)) | refine WO ?_ | refine All.i fun X => ?_ | refine AllY.i fun Y => ?_))
      refine AOps.nil ?_
      rw [hma, hml]
      (repeat first | refine AOps.nil ?_ | refine WF ?_)
      (repeat refine WF ?_); refine AWP.region ?_; (repeat (first | (refine AOps.gN ?_; first | (refine AOps.g_callf ?_; first | refine AOps.z2 (h := k3) (hT := .fz) (k := ?_))) | refine WO ?_ | refine All.i fun X => ?_ | refine AllY.i fun Y => ?_)); refine AOps.nil ?_; (repeat refine WN ?_)
      (repeat first | refine AOps.nil ?_ | refine WF ?_)
      refine AWP.cond rfl (fun hx => ?_) (fun hx => ?_)
      · have hx : w = 1 := by rw [decide_eq_true_eq] at hx; omega
        rw [if_pos hx] at hgo
        have m1 := rcomps_sp R X b sw ks hk h16 hb k5
        have m2 := compsGo_le (b := b) ks 0 sw [] k5
        obtain ⟨⟨CS, sc⟩, hcs⟩ : ∃ z, compsGo b ks 0 sw [] = z := ⟨_, rfl⟩
        rw [hcs] at m1 m2 hgo
        dsimp only at m1 m2 hgo
        have hmb : its.map (itemA false) ++ [itemA false ⟨⟨i, ((v.toNat : Nat) : Int)⟩, CS⟩] = (its ++ [(⟨⟨i, ((v.toNat : Nat) : Int)⟩, CS⟩ : Item)]).map (itemA false) := by simp
        have hmlb : its.length + [itemA false ⟨⟨i, ((v.toNat : Nat) : Int)⟩, CS⟩].length = (its ++ [(⟨⟨i, ((v.toNat : Nat) : Int)⟩, CS⟩ : Item)]).length := by simp
        (repeat first | refine AOps.nil ?_ | refine WF ?_)
        refine AWP.rs fun Y2 => ?_
        (repeat refine WF ?_); refine AWP.region_run (by kernel_rfl) (by kernel_rfl) ?_; (repeat (first | (refine RGo.gN ?_; first | (refine RGo.g_callf ?_; first | refine RGo.z2 (h := m1) (hT := .fz) (k := ?_)) | refine RGo.go (h := W.ofUN .u64 (by omega) (by kernel_rfl) (by kernel_rfl) rfl) (k := ?_) | (refine RGo.g_lit ?_; refine RGo.goL (itemA false ⟨⟨i, ((v.toNat : Nat) : Int)⟩, CS⟩) ?_)) | (refine RGo.gQ ?_; first | (refine RGo.g_callf ?_; first | refine RGo.z2 (h := m1) (hT := .fz) (k := ?_)) | refine RGo.go (h := W.ofUN .u64 (by omega) (by kernel_rfl) (by kernel_rfl) rfl) (k := ?_) | (refine RGo.g_lit ?_; refine RGo.goL (itemA false ⟨⟨i, ((v.toNat : Nat) : Int)⟩, CS⟩) ?_)) | refine RK ?_ | refine RGo.nil (by kernel_rfl) ?_))
        rw [hmb, hmlb]
        (repeat (first | refine WK ?_ | refine All.i fun X => ?_ | refine AllY.i fun Y => ?_))
        exact lp_next4 (i + 1) Y Y2 (gs ++ [((v.toNat : Nat) : Int)], its ++ [(⟨⟨i, ((v.toNat : Nat) : Int)⟩, CS⟩ : Item)], sc) ⟨by omega, by rw [List.length_append, List.length_singleton]; omega, by rw [List.length_append, List.length_singleton]; omega, m2, hgo⟩ (by omega)
      · have hx : w ≠ 1 := by rw [decide_eq_false_iff_not] at hx; omega
        rw [if_neg hx] at hgo
        (repeat (first | refine WK ?_ | refine All.i fun X => ?_ | refine AllY.i fun Y => ?_))
        exact lp_next4 (i + 1) Y I (gs ++ [((v.toNat : Nat) : Int)], its, sw) ⟨by omega, by rw [List.length_append, List.length_singleton]; omega, by show its.length ≤ i + 1; omega, k5, hgo⟩ (by omega)
  · have hc : i = c := by rw [decide_eq_false_iff_not] at hc; omega
    subst hc
    rw [Nat.sub_self] at hgo
    have hgo : (gs, its, s) = (GS, IS, s2) := hgo
    injection hgo with e1 e2
    injection e2 with e2 e3
    subst e1 e2 e3
    (repeat first | refine AOps.nil ?_ | refine WF ?_)
    refine AWP.iceIn (X := I) (Y := V) .here (.next (.next .here)) rfl (.cons (.agg (.cons .same (.cons .same (.cons (.base (.sl (by omega))) .nil)))) .nil) ?_
    have hI : AV.frzs (((its.map (itemA false)).drop 0).take its.length) = its.map (itemA false) := by
      rw [List.drop_zero, List.take_of_length_le (by omega)]
      exact Frzs.h
    rw [hI]
    refine AWP.iceIn (X := G) (Y := V) (.next .here) (.next (.next .here)) rfl (.cons (.agg (.cons .same (.cons (.base (.sl (by omega))) (.cons .same .nil)))) .nil) ?_
    have hG : AV.frzs (((gs.map iA).drop 0).take gs.length) = gs.map iA := by
      rw [List.drop_zero, List.take_of_length_le (by omega)]
      exact Frzs.h
    rw [hG]
    (repeat refine WF ?_); refine AWP.region ?_; (repeat (first | refine WO ?_ | refine All.i fun X => ?_ | refine AllY.i fun Y => ?_)); refine AOps.nil ?_; (repeat refine WN ?_)
    (refine AWP.ret ?_; (repeat (first | refine inB_r ?_ | refine andThen_r ?_)); refine retQ_r ?_)
    exact Ends.sp [wdA false ⟨ks, gs, its⟩] [(R, _), (X, _)] ⟨rfl, rfl⟩
end Go.Proofs.Ytbfcbfgpbbkecaa

namespace Go.Proofs.Ytbfcbfgpbbkecaa
set_option linter.unusedVariables false
theorem SOK.gt {ks : List Kind} {gs : List Int} {n : Nat} {c : Item} {l : List Item} (h : SOK ks gs n (c :: l)) (hc : (n : Int) < c.ent.n) : ∀ d ∈ c :: l, (n : Int) < d.ent.n := by
  intro d hd
  rcases List.mem_cons.1 hd with rfl | hd
  · exact hc
  · have := (List.pairwise_cons.1 h.so).1 d hd
    omega
theorem SOK.tl {ks : List Kind} {gs : List Int} {n : Nat} {c : Item} {l : List Item} (h : SOK ks gs n (c :: l)) : SOK ks gs n l := ⟨h.gn, (List.pairwise_cons.1 h.so).2, fun d hd => h.it d (by simp [hd])⟩
set_option maxHeartbeats 2000000 in
theorem sitems_sp (X H : Nat) (s : Wr) (ks : List Kind) (gs : List Int) (its : List Item) (hk : ∀ k ∈ ks, KOK k) (h16 : ks.length ≤ 16) (hl : SOK ks gs 0 its) (hgl : gs.length ≤ 256) (hil : its.length ≤ 256) (hcl : ∀ x ∈ its, x.comps.length ≤ 16) (hr : s.bs.length ≤ 524288) :
    Spec Try.prog 26 [.ptr X 0 0, wdA false ⟨ks, gs, its⟩] (wsS X H s) fun r S' => ∃ K : Nat, r = .tup [] ∧ S' = wsS X K (s.adds (bitsU (UInt64.ofNat gs.length) 9 :: slotsC ks gs 0 its)) := by
  have hgm : (gs.map iA).length = gs.length := List.length_map _
  have him : (its.map (itemA false)).length = its.length := List.length_map _
  have n1 : (UInt64.ofNat gs.length).toNat = gs.length := by rw [UInt64.toNat_ofNat']; omega
  have hp0 := sput_sp X H s (UInt64.ofNat gs.length) 9 (by decide) (by rw [n1]; omega) hr
  have hr1 := wr_add_le hr (bitsU (UInt64.ofNat gs.length) 9)
  show Spec _ _ _ _ fun r S' => ∃ K : Nat, r = .tup [] ∧ S' = wsS X K ((s.add (bitsU (UInt64.ofNat gs.length) 9)).adds (slotsC ks gs 0 its))
  obtain ⟨u0, hu0⟩ : ∃ u, s.add (bitsU (UInt64.ofNat gs.length) 9) = u := ⟨_, rfl⟩
  rw [hu0] at hp0 hr1 ⊢
  obtain ⟨fin, hfin⟩ : ∃ u, u0.adds (slotsC ks gs 0 its) = u := ⟨_, rfl⟩
  rw [hfin]
  refine Spec.of (nt := 68) (res := []) Try.func26 rfl (by kernel_rfl) rfl rfl rfl fun Sf => ?_
  (repeat refine WF ?_); refine AWP.region ?_; (repeat (first | refine WO ?_ | refine All.i fun B => ?_ | refine AllY.i fun Y => ?_)); refine AOps.nil ?_; (repeat refine WN ?_)
  (repeat first | refine AOps.nil ?_ | refine WF ?_)
  (repeat refine WF ?_); refine AWP.region ?_; (repeat (first | (refine AOps.gN ?_; first | refine AOps.go (h := W.toUN .i64 gs.length (by rw [hgm]) (by omega) (by kernel_rfl) (by kernel_rfl) rfl) (k := ?_) | refine AOps.eQ3 (h := hp0) fun K0 => ?_) | refine WO ?_ | refine All.i fun X => ?_ | refine AllY.i fun Y => ?_)); refine AOps.nil ?_; (repeat refine WN ?_)
  (repeat first | refine AOps.nil ?_ | refine WF ?_)
  (repeat refine WF ?_); refine AWP.region ?_; (repeat (first | refine WO ?_ | refine All.i fun X => ?_ | refine AllY.i fun Y => ?_)); refine AOps.nil ?_; (repeat refine WN ?_)
  (repeat first | refine AOps.nil ?_ | refine WF ?_)
  (repeat refine WF ?_); refine AWP.region ?_; (repeat (first | refine WO ?_ | refine All.i fun X => ?_ | refine AllY.i fun Y => ?_)); refine AOps.nil ?_; (repeat refine WN ?_)
  (repeat first | refine AOps.nil ?_ | refine WF ?_)
  refine AWP.lp4 (fun (i q : Nat) (K : Nat) (u : Wr) => ⟨[(0, .ptr X 0 0), (3, .ptr B 0 0), (4, iA q), (14, intsA false gs), (15, iA (gs.map iA).length), (16, iA i)], (B, .row 29 3 [wdA false ⟨ks, gs, its⟩]) :: (wsS X K u ++ Sf)⟩) (fun i q K u => i ≤ gs.length ∧ q ≤ its.length ∧ u.bs.length ≤ 524288 ∧ SOK ks (gs.drop i) i (its.drop q) ∧ u.adds (slotsC ks (gs.drop i) i (its.drop q)) = fin) (fun i _ _ _ => gs.length - i) 0 0 K0 u0 ⟨by omega, by omega, hr1, hl, hfin⟩ ?_
  rintro i q K u ⟨hi, hq, hru, hso, hu⟩
  (repeat refine WF ?_); refine AWP.region ?_; (repeat (first | refine WO ?_ | refine All.i fun X => ?_ | refine AllY.i fun Y => ?_)); refine AOps.nil ?_; (repeat refine WN ?_)
  (repeat first | refine AOps.nil ?_ | refine WF ?_)
  refine AWP.cond rfl (fun hc => ?_) (fun hc => ?_)
  · have hc : i < gs.length := by rw [decide_eq_true_eq, hgm] at hc; omega
    have hat0 : (gs.map iA)[i]? = some (iA gs[i]) := by rw [List.getElem?_map, List.getElem?_eq_getElem hc]; rfl
    have hilt : i < (gs.map iA).length := by omega
    rw [drop_at hc] at hso hu
    obtain ⟨g, hge⟩ : ∃ g, gs[i] = g := ⟨_, rfl⟩
    rw [hge] at hso hu hat0
    have hgn := hso.gn g (by simp)
    (repeat first | refine AOps.nil ?_ | refine WF ?_)
    (repeat refine WF ?_); refine AWP.region ?_; (repeat (first | refine WO ?_ | refine All.i fun X => ?_ | refine AllY.i fun Y => ?_)); refine AOps.nil ?_; (repeat refine WN ?_)
    (repeat first | refine AOps.nil ?_ | refine WF ?_)
    (repeat refine WF ?_); refine AWP.region ?_; (repeat (first | refine WO ?_ | refine All.i fun X => ?_ | refine AllY.i fun Y => ?_)); refine AOps.nil ?_; (repeat refine WN ?_)
    (repeat first | refine AOps.nil ?_ | refine WF ?_)
    have hz1 := wr_add_le hru (natBits (UInt64.ofInt g))
    obtain ⟨u1, hu1⟩ : ∃ x, u.add (natBits (UInt64.ofInt g)) = x := ⟨_, rfl⟩
    rw [hu1] at hz1
    have hua : u1.adds (match its.drop q with | [] => bitsU 0 1 :: slotsC ks (gs.drop (i + 1)) (i + 1) [] | it :: l => if it.ent.n = i then bitsU 1 1 :: (compsC ks 0 it.comps ++ slotsC ks (gs.drop (i + 1)) (i + 1) l) else bitsU 0 1 :: slotsC ks (gs.drop (i + 1)) (i + 1) (it :: l)) = fin := by
      rw [← hu, ← hu1, ← adds_cons]
      congr 1
      cases its.drop q with
      | nil => rfl
      | cons it l =>
        rw [slotsC]
        dsimp only
        split <;> rfl
    refine AWP.joinS (fun _ : Nat => True) (fun K => ⟨[(0, .ptr X 0 0), (3, .ptr B 0 0), (4, iA q), (5, iA i), (14, intsA false gs), (15, iA (gs.map iA).length), (16, iA i)], (B, .row 29 3 [wdA false ⟨ks, gs, its⟩]) :: (wsS X K u1 ++ Sf)⟩) ?_ ?_
    · obtain ⟨bs, e⟩ := u
      refine AWP.cond rfl (fun he => ?_) (fun he => ?_)
      · have he : e = 0 := by simpa using he
        have hru : bs.length ≤ 524288 := hru
        have hq3 := bnat_sp 58 3 e X K bs (UInt64.ofInt g) hru
        rw [wr_add_ok he] at hu1
        change Wr.mk (addB bs (natBits (UInt64.ofInt g))) (addE bs (natBits (UInt64.ofInt g))) = _ at hu1
        obtain ⟨er, her⟩ : ∃ x, addE bs (natBits (UInt64.ofInt g)) = x := ⟨_, rfl⟩
        obtain ⟨ds, hds⟩ : ∃ x, addB bs (natBits (UInt64.ofInt g)) = x := ⟨_, rfl⟩
        rw [her, hds] at hq3 hu1
        subst hu1
        (repeat first | refine AOps.nil ?_ | refine WF ?_)
        (repeat refine WF ?_); refine AWP.region ?_; (repeat (first | (refine AOps.gN ?_; first | refine AOps.go (h := W.toU .i64 (by kernel_rfl) (by kernel_rfl) rfl) (k := ?_) | refine AOps.eQ2 (h := hq3) fun K1 => ?_) | refine WO ?_ | refine All.i fun X => ?_ | refine AllY.i fun Y => ?_)); refine AOps.nil ?_; (repeat refine WN ?_)
        exact ⟨rfl, K1, trivial, by exact Lk.f, by exact Sub.f⟩
      · have he : e ≠ 0 := by simpa using he
        rw [wr_add_no he] at hu1
        subst hu1
        (repeat (first | refine WK ?_ | refine All.i fun X => ?_ | refine AllY.i fun Y => ?_))
        exact ⟨rfl, K, trivial, by exact Lk.f, by exact Sub.f⟩
    · intro K1 _
      (repeat first | refine AOps.nil ?_ | refine WF ?_)
      by_cases hql : q = its.length
      · have hd : decide ((q : Int) < ((its.map (itemA false)).length : Int)) = false := decide_eq_false (by rw [him]; omega)
        have hdn : its.drop q = [] := List.drop_eq_nil_of_le (by omega)
        rw [hdn] at hua hso
        dsimp only at hua
        rw [adds_cons] at hua
        have hz := fun K => sput_sp X K u1 0 1 (by decide) (by decide) hz1
        have hz2 := wr_add_le hz1 (bitsU 0 1)
        obtain ⟨u2, hu2⟩ : ∃ x, u1.add (bitsU 0 1) = x := ⟨_, rfl⟩
        rw [hu2] at hz hz2 hua
        have hso' : SOK ks (gs.drop (i + 1)) (i + 1) [] := hso.next (fun c hc => by cases hc)
        (repeat refine WF ?_); refine AWP.region ?_; (repeat (first | refine WO ?_ | refine All.i fun X => ?_ | refine AllY.i fun Y => ?_)); refine AOps.nil ?_; (repeat refine WN ?_)
        (repeat first | refine AOps.nil ?_ | refine WF ?_)
        refine AWP.cond_f rfl (by simp) ?_
        (repeat first | refine AOps.nil ?_ | refine WF ?_)
        (repeat refine WF ?_); refine AWP.region ?_; (repeat (first | (refine AOps.gN ?_; first | refine AOps.eQ3 (h := hz _) fun K2 => ?_) | refine WO ?_ | refine All.i fun X => ?_ | refine AllY.i fun Y => ?_)); refine AOps.nil ?_; (repeat refine WN ?_)
        (repeat (first | refine WK ?_ | refine All.i fun X => ?_ | refine AllY.i fun Y => ?_))
        exact lp_next4 (i + 1) q K2 u2 ⟨by omega, by omega, hz2, by rw [hdn]; exact hso', by rw [hdn]; exact hua⟩ (by omega)
      · have hql : q < its.length := by omega
        have hd : decide ((q : Int) < ((its.map (itemA false)).length : Int)) = true := decide_eq_true (by rw [him]; omega)
        have hqm : q < (its.map (itemA false)).length := by omega
        have hdq := drop_at hql
        have hcle := hcl _ (List.getElem_mem hql)
        rw [hdq] at hua hso
        obtain ⟨⟨⟨en, eg⟩, cs⟩, hce⟩ : ∃ c, its[q] = c := ⟨_, rfl⟩
        rw [hce] at hua hso hdq hcle
        have hat2 : (its.map (itemA false))[q]? = some (itemA false ⟨⟨en, eg⟩, cs⟩) := by rw [List.getElem?_map, List.getElem?_eq_getElem hql, hce]; rfl
        obtain ⟨hk1, hk2, hk3, hk4⟩ := hso.it ⟨⟨en, eg⟩, cs⟩ (by simp)
        dsimp only at hk1 hk2 hk3 hk4 hua hcle
        (repeat refine WF ?_); refine AWP.region ?_; (repeat (first | refine WO ?_ | refine All.i fun X => ?_ | refine AllY.i fun Y => ?_)); refine AOps.nil ?_; (repeat refine WN ?_)
        (repeat first | refine AOps.nil ?_ | refine WF ?_)
        refine AWP.cond rfl (fun hb => ?_) (fun hb => ?_)
        · have hb : en = (i : Int) := by simpa using hb
          rw [if_pos hb, adds_cons, adds_app] at hua
          have ho := fun K => sput_sp X K u1 1 1 (by decide) (by decide) hz1
          have ho1 := wr_add_le hz1 (bitsU 1 1)
          obtain ⟨u2, hu2⟩ : ∃ x, u1.add (bitsU 1 1) = x := ⟨_, rfl⟩
          rw [hu2] at ho ho1 hua
          have hcs := fun K => scomps_sp X K u2 ks cs hk h16 hk4 hcle ho1
          have hru3 := wr_adds_le (compsC ks 0 cs) ho1
          obtain ⟨u3, hu3⟩ : ∃ x, u2.adds (compsC ks 0 cs) = x := ⟨_, rfl⟩
          rw [hu3] at hcs hua hru3
          have hso' := hso.tl.next (fun d hd => by
            have := (List.pairwise_cons.1 hso.so).1 d hd
            have : en < d.ent.n := this
            omega)
          (repeat first | refine AOps.nil ?_ | refine WF ?_)
          (repeat refine WF ?_); refine AWP.region ?_; (repeat (first | (refine AOps.gN ?_; first | refine AOps.eQ3 (h := ho _) fun K2 => ?_) | refine WO ?_ | refine All.i fun X => ?_ | refine AllY.i fun Y => ?_)); refine AOps.nil ?_; (repeat refine WN ?_)
          (repeat first | refine AOps.nil ?_ | refine WF ?_)
          (repeat refine WF ?_); refine AWP.region_runE (by kernel_rfl) (by kernel_rfl) ?_; (repeat refine RGoE.go ?_)
          refine RGoE.eQ3 (h := hcs _) (fun K6 => ?_)
          (repeat (first | refine RK ?_ | refine RGo.nil (by kernel_rfl) ?_))
          (repeat first | refine AOps.nil ?_ | refine WF ?_)
          (repeat refine WF ?_); refine AWP.region ?_; (repeat (first | refine WO ?_ | refine All.i fun X => ?_ | refine AllY.i fun Y => ?_)); refine AOps.nil ?_; (repeat refine WN ?_)
          (repeat (first | refine WK ?_ | refine All.i fun X => ?_ | refine AllY.i fun Y => ?_))
          exact lp_next4 (i + 1) (q + 1) K6 u3 ⟨by omega, by omega, hru3, hso', hua⟩ (by omega)
        · have hb : en ≠ (i : Int) := by simpa using hb
          rw [if_neg hb, adds_cons] at hua
          have hz := fun K => sput_sp X K u1 0 1 (by decide) (by decide) hz1
          have hz2 := wr_add_le hz1 (bitsU 0 1)
          obtain ⟨u2, hu2⟩ : ∃ x, u1.add (bitsU 0 1) = x := ⟨_, rfl⟩
          rw [hu2] at hz hz2 hua
          have hso' := hso.next (hso.gt (by show (i : Int) < en; omega))
          (repeat first | refine AOps.nil ?_ | refine WF ?_)
          (repeat refine WF ?_); refine AWP.region ?_; (repeat (first | (refine AOps.gN ?_; first | refine AOps.eQ3 (h := hz _) fun K2 => ?_) | refine WO ?_ | refine All.i fun X => ?_ | refine AllY.i fun Y => ?_)); refine AOps.nil ?_; (repeat refine WN ?_)
          (repeat (first | refine WK ?_ | refine All.i fun X => ?_ | refine AllY.i fun Y => ?_))
          exact lp_next4 (i + 1) q K2 u2 ⟨by omega, by omega, hz2, by rw [hdq]; exact hso', by rw [hdq]; exact hua⟩ (by omega)
  · have hc : i = gs.length := by rw [decide_eq_false_iff_not, hgm] at hc; omega
    have hdn : gs.drop i = [] := List.drop_eq_nil_of_le (by omega)
    rw [hdn] at hu
    have hu : u = fin := hu
    subst hu
    (repeat (first | refine WK ?_ | refine All.i fun X => ?_ | refine AllY.i fun Y => ?_))
    refine retQ_n ?_
    exact Ends.void [(K, _), (X, _)] ⟨K, rfl, rfl⟩
end Go.Proofs.Ytbfcbfgpbbkecaa

namespace Go.Proofs.Ytbfcbfgpbbkecaa
set_option linter.unusedVariables false
/-- As many places as kinds. -/
theorem cok_len {ks : List Kind} {l : List Comp} (h : COK ks 0 l) : l.length ≤ ks.length := by
  have : ∀ (l : List Comp) (n : Nat), l.Pairwise (fun a b => a.kind < b.kind) → (∀ c ∈ l, (n : Int) ≤ c.kind ∧ c.kind < ks.length) → n ≤ ks.length → l.length + n ≤ ks.length := by
    intro l
    induction l with
    | nil => intro n _ _ h; simpa using h
    | cons c l ih =>
      intro n hp hb hn
      obtain ⟨h1, h2⟩ := List.pairwise_cons.1 hp
      have h3 := hb c (by simp)
      have := ih (n + 1) h2 (fun d hd => by
        have h4 := h1 d hd
        have h5 := hb d (by simp [hd])
        omega) (by omega)
      rw [List.length_cons]
      omega
  have := this l 0 h.so (fun c hc => by
    obtain ⟨a, b, _⟩ := h.it c hc
    exact ⟨by simpa using a, by simpa using b⟩) (Nat.zero_le _)
  simpa using this
set_option maxHeartbeats 1000000 in
theorem write_ps (w : Wd) (hg : w.gens.length ≤ 1099511627776) (hi : w.items.length ≤ 1099511627776) (hc : ∀ it ∈ w.items, it.comps.length ≤ 1099511627776) : PS Try.prog 9 [wdA false w] (.tup [ysA (writeM w).1, iA (writeM w).2]) := by
  have h0 := check_ps' w hg hi hc
  obtain ⟨we, hwe⟩ : ∃ we, wdErr w = we := ⟨_, rfl⟩
  unfold writeM
  rw [hwe] at h0 ⊢
  refine Spec.of (nt := 40) (res := [.tmp 2, .tmp 3]) Try.func9 rfl (by kernel_rfl) rfl rfl rfl fun Sf => ?_
  (repeat refine WF ?_); refine AWP.region ?_; (repeat (first | refine WO ?_ | refine All.i fun B => ?_ | refine AllY.i fun Y => ?_)); refine AOps.nil ?_; (repeat refine WN ?_)
  (repeat first | refine AOps.nil ?_ | refine WF ?_)
  (repeat refine WF ?_); refine AWP.region ?_; (repeat (first | (refine AOps.gN ?_; first | (refine AOps.g_callf ?_; first | refine AOps.c1 (h := (h0 ..)) (k := ?_))) | refine WO ?_ | refine All.i fun X => ?_ | refine AllY.i fun Y => ?_)); refine AOps.nil ?_; (repeat refine WN ?_)
  (repeat first | refine AOps.nil ?_ | refine WF ?_)
  (repeat refine WF ?_); refine AWP.region ?_; (repeat (first | refine WO ?_ | refine All.i fun X => ?_ | refine AllY.i fun Y => ?_)); refine AOps.nil ?_; (repeat refine WN ?_)
  (repeat first | refine AOps.nil ?_ | refine WF ?_)
  refine AWP.cond rfl (fun hb => ?_) (fun hb => ?_)
  · have hb : we ≠ 0 := by simpa using hb
    rw [if_pos hb]
    (repeat (first | refine WK ?_ | refine All.i fun X => ?_ | refine AllY.i fun Y => ?_))
    (refine AWP.ret ?_; (repeat (first | refine inB_r ?_ | refine andThen_r ?_)); refine retQ_r ?_)
    exact Ends.cv [.prim (.slice none 0 0), iA we] [ysA [], iA we] (.cons (.cell .nil) (.cons (.cell .same) .nil))
  · have hb : we = 0 := by simpa using hb
    subst hb
    rw [if_neg (by simp)]
    have hok := (wdErr_iff w).1 hwe
    obtain ⟨ks, gs, its⟩ := w
    have hks : ∀ k ∈ ks, KOK k := fun k hk => kok_of ((checkErr_one hok.ks).2 k hk)
    have h16 : ks.length ≤ 16 := (checkErr_one hok.ks).1
    have hso : SOK ks gs 0 its := sok_of hok
    have hgl : gs.length ≤ 256 := hok.gl
    have hil : its.length ≤ 256 := Nat.le_trans hok.il hgl
    have hcl : ∀ x ∈ its, x.comps.length ≤ 16 := fun x hx => Nat.le_trans (cok_len (hso.it x hx).2.2.2) h16
    have hw : Wr.adds ⟨[], 0⟩ (worldC ⟨ks, gs, its⟩) = (((Wr.mk [] 0).add (bitsU 1 8)).adds (kindsC ks)).adds (bitsU (UInt64.ofNat gs.length) 9 :: slotsC ks gs 0 its) := by
      unfold worldC
      rw [adds_cons, adds_app]
    rw [hw]
    have hr0 : (Wr.mk [] 0).bs.length ≤ 524288 := by decide
    have p1 := fun X H => sput_sp X H ⟨[], 0⟩ 1 8 (by decide) (by decide) hr0
    have hr1 := wr_add_le hr0 (bitsU 1 8)
    obtain ⟨u1, hu1⟩ : ∃ x, (Wr.mk [] 0).add (bitsU 1 8) = x := ⟨_, rfl⟩
    rw [hu1] at p1 hr1 ⊢
    have p2 := fun X H => skinds_sp X H u1 ks hks h16 hr1
    have hr2 := wr_adds_le (kindsC ks) hr1
    obtain ⟨u2, hu2⟩ : ∃ x, u1.adds (kindsC ks) = x := ⟨_, rfl⟩
    rw [hu2] at p2 hr2 ⊢
    have p3 := fun X H => sitems_sp X H u2 ks gs its hks h16 hso hgl hil hcl hr2
    have hr3 := wr_adds_le (bitsU (UInt64.ofNat gs.length) 9 :: slotsC ks gs 0 its) hr2
    obtain ⟨u3, hu3⟩ : ∃ x, u2.adds (bitsU (UInt64.ofNat gs.length) 9 :: slotsC ks gs 0 its) = x := ⟨_, rfl⟩
    rw [hu3] at p3 hr3 ⊢
    (repeat first | refine AOps.nil ?_ | refine WF ?_)
    (repeat refine WF ?_); refine AWP.region ?_; (repeat (first | refine WO ?_ | refine All.i fun X => ?_ | refine AllY.i fun Y => ?_)); refine AOps.nil ?_; (repeat refine WN ?_)
    (repeat first | refine AOps.nil ?_ | refine WF ?_)
    refine AWP.adoptIn 5 1 .here (fun K => .cons (.agg (.cons (.base .nil) (.cons .same (.cons .same .nil)))) .nil) fun H => ?_
    (repeat refine WF ?_); refine AWP.region ?_; (repeat (first | (refine AOps.gN ?_; first | refine AOps.eQ3 (h := p1 _ _) fun K1 => ?_) | refine WO ?_ | refine All.i fun X => ?_ | refine AllY.i fun Y => ?_)); refine AOps.nil ?_; (repeat refine WN ?_)
    (repeat first | refine AOps.nil ?_ | refine WF ?_)
    (repeat refine WF ?_); refine AWP.region ?_; (repeat (first | (refine AOps.gN ?_; first | refine AOps.eQ2 (h := p2 _ _) fun K2 => ?_) | refine WO ?_ | refine All.i fun X => ?_ | refine AllY.i fun Y => ?_)); refine AOps.nil ?_; (repeat refine WN ?_)
    (repeat first | refine AOps.nil ?_ | refine WF ?_)
    (repeat refine WF ?_); refine AWP.region ?_; (repeat (first | (refine AOps.gN ?_; first | refine AOps.eQ2 (h := p3 _ _) fun K3 => ?_) | refine WO ?_ | refine All.i fun X => ?_ | refine AllY.i fun Y => ?_)); refine AOps.nil ?_; (repeat refine WN ?_)
    (repeat first | refine AOps.nil ?_ | refine WF ?_)
    refine AWP.rs fun Y => ?_
    obtain ⟨bs, e⟩ := u3
    have hr3 : bs.length ≤ 524288 := hr3
    have hby := fun X H => wbytes_sp 58 3 e X H bs hr3
    (repeat refine WF ?_); refine AWP.region ?_; (repeat (first | (refine AOps.gN ?_; first | (refine AOps.g_callf ?_; first | refine AOps.z1 (h := hby _ _) (hT := .ls) (k := ?_))) | refine WO ?_ | refine All.i fun X => ?_ | refine AllY.i fun Y => ?_)); refine AOps.nil ?_; (repeat refine WN ?_)
    (repeat first | refine AOps.nil ?_ | refine WF ?_)
    have hpm : ((packB bs).map yA).length = (packB bs).length := List.length_map _
    have hpl : (packB bs).length ≤ 65537 := by rw [packB_len]; omega
    (repeat refine WF ?_); refine AWP.region ?_; (repeat (first | refine WO ?_ | refine All.i fun X => ?_ | refine AllY.i fun Y => ?_)); refine AOps.nil ?_; (repeat refine WN ?_)
    (repeat first | refine AOps.nil ?_ | refine WF ?_)
    refine AWP.cond rfl (fun hb => ?_) (fun hb => ?_)
    · have hb : e ≠ 0 ∨ 65536 < (packB bs).length + 8 := by
        rw [hpm] at hb
        simp only [Bool.or_eq_true, decide_eq_true_eq] at hb
        rcases hb with hb | hb
        · exact .inl hb
        · exact .inr (by omega)
      rw [if_pos hb]
      (repeat (first | refine WK ?_ | refine All.i fun X => ?_ | refine AllY.i fun Y => ?_))
      (refine AWP.ret ?_; (repeat (first | refine inB_r ?_ | refine andThen_r ?_)); refine retQ_r ?_)
      exact Ends.cv [.prim (.slice none 0 0), iA 2] [ysA [], iA 2] (.cons (.cell .nil) (.cons (.cell .same) .nil))
    · have hb : ¬ (e ≠ 0 ∨ 65536 < (packB bs).length + 8) := by
        rw [hpm] at hb
        simp only [Bool.or_eq_false_iff, decide_eq_false_iff_not] at hb
        omega
      rw [if_neg hb]
      have hse := fun X => seal_sp X (packB bs) _ hpm (by omega)
      obtain ⟨sb, hsb⟩ : ∃ x, sealB (packB bs) = x := ⟨_, rfl⟩
      rw [hsb] at hse ⊢
      (repeat first | refine AOps.nil ?_ | refine WF ?_)
      (repeat refine WF ?_); refine AWP.region ?_; (repeat (first | (refine AOps.gN ?_; first | refine AOps.eU1 (h := hse _) fun K4 => ?_) | refine WO ?_ | refine All.i fun X => ?_ | refine AllY.i fun Y => ?_)); refine AOps.nil ?_; (repeat refine WN ?_)
      (refine AWP.ret ?_; (repeat (first | refine inB_r ?_ | refine andThen_r ?_)); refine retQ_r ?_)
      exact Ends.cv [ysA sb, iA 0] [ysA sb, iA 0] (.cons (.cell .same) (.cons (.cell .same) .nil))
theorem size_ps (w : Wd) (hg : w.gens.length ≤ 1099511627776) (hi : w.items.length ≤ 1099511627776) (hc : ∀ it ∈ w.items, it.comps.length ≤ 1099511627776) : PS Try.prog 12 [wdA false w] (.tup [iA (writeM w).1.length, iA (writeM w).2]) := by
  have h1 := write_ps w hg hi hc
  obtain ⟨⟨b, e⟩, hb⟩ : ∃ x, writeM w = x := ⟨_, rfl⟩
  rw [hb] at h1 ⊢
  have hbm : (b.map yA).length = b.length := List.length_map _
  refine Spec.of (nt := 14) (res := [.tmp 2, .tmp 3]) Try.func12 rfl (by kernel_rfl) rfl rfl rfl fun Sf => ?_
  (repeat refine WF ?_); refine AWP.region ?_; (repeat (first | refine WO ?_ | refine All.i fun B => ?_ | refine AllY.i fun Y => ?_)); refine AOps.nil ?_; (repeat refine WN ?_)
  (repeat first | refine AOps.nil ?_ | refine WF ?_)
  (repeat refine WF ?_); refine AWP.region ?_; (repeat (first | (refine AOps.gN ?_; first | (refine AOps.g_callf ?_; first | refine AOps.c1 (h := (h1 ..)) (k := ?_))) | refine WO ?_ | refine All.i fun X => ?_ | refine AllY.i fun Y => ?_)); refine AOps.nil ?_; (repeat refine WN ?_)
  (repeat first | refine AOps.nil ?_ | refine WF ?_)
  (repeat refine WF ?_); refine AWP.region ?_; (repeat (first | refine WO ?_ | refine All.i fun X => ?_ | refine AllY.i fun Y => ?_)); refine AOps.nil ?_; (repeat refine WN ?_)
  (refine AWP.ret ?_; (repeat (first | refine inB_r ?_ | refine andThen_r ?_)); refine retQ_r ?_)
  rw [← hbm]
  exact Ends.sp [iA (b.map yA).length, iA e] [] ⟨rfl, rfl⟩
end Go.Proofs.Ytbfcbfgpbbkecaa

namespace Go.Proofs.Ytbfcbfgpbbkecaa
set_option linter.unusedVariables false
theorem bitsNew_ps (b : List UInt8) (hb : b.length ≤ 65536) : PS Try.prog 19 [ysA b] (.bx 85 (.agg [ysA b, iA 0])) := by
  have hbm : (b.map yA).length = b.length := List.length_map _
  refine Spec.of (nt := 7) (res := [.tmp 2]) Try.func19 rfl (by kernel_rfl) rfl rfl rfl fun Sf => ?_
  (repeat refine WF ?_); refine AWP.region ?_; (repeat (first | refine WO ?_ | refine All.i fun X => ?_ | refine AllY.i fun Y => ?_)); refine AOps.nil ?_; (repeat refine WN ?_)
  (repeat first | refine AOps.nil ?_ | refine WF ?_)
  refine AWP.rs fun Y => ?_
  (repeat refine WF ?_); refine AWP.region ?_; (repeat (first | (refine AOps.gN ?_; first | refine AOps.s (W.appN (by rw [hbm]; omega) (by rw [hbm]; unfold maxLen; omega) rfl rfl (by exact At.f)) rfl ?_) | refine WO ?_ | refine All.i fun X => ?_ | refine AllY.i fun Y => ?_)); refine AOps.nil ?_; (repeat refine WN ?_)
  refine AWP.iceIn (X := Y) (Y := X) (.next .here) .here rfl (.cons (.agg (.cons (.base (.sl (by omega))) (.cons .same .nil))) .nil) ?_
  have hB : AV.frzs (((b.map yA).drop 0).take (b.map yA).length) = b.map yA := by
    rw [List.drop_zero, List.take_of_length_le (by omega)]
    exact Frzs.h
  rw [hB]
  (refine AWP.ret ?_; (repeat (first | refine inB_r ?_ | refine andThen_r ?_)); refine retQ_r ?_)
  exact Ends.cv [.ptr X 0 0] [.bx 85 (.agg [ysA b, iA 0])] (.cons (.cell (.ptr .here)) .nil)
theorem compsGo_len {b : List UInt8} : ∀ (ks : List Kind) (i : Nat) (s : RdS) (o : List Comp), (compsGo b ks i s o).1.length ≤ o.length + ks.length
  | [], i, s, o => by rw [compsGo]; exact Nat.le_refl _
  | k :: ks, i, s, o => by
    rw [compsGo]
    split
    · exact Nat.le_trans (compsGo_len ks _ _ _) (by simp only [List.length_cons]; omega)
    · exact Nat.le_trans (compsGo_len ks _ _ _) (by simp only [List.length_cons, List.length_append, List.length_nil]; omega)
theorem slotsGo_len {b : List UInt8} (ks : List Kind) : ∀ (c n : Nat) (s : RdS) (gs : List Int) (its : List Item), (slotsGo b ks c n s gs its).1.length ≤ gs.length + c ∧ (slotsGo b ks c n s gs its).2.1.length ≤ its.length + c ∧ ((∀ it ∈ its, it.comps.length ≤ ks.length) → ∀ it ∈ (slotsGo b ks c n s gs its).2.1, it.comps.length ≤ ks.length)
  | 0, n, s, gs, its => by rw [slotsGo]; exact ⟨Nat.le_refl _, Nat.le_refl _, id⟩
  | c + 1, n, s, gs, its => by
    rw [slotsGo]
    split
    · exact ⟨by simp, by simp, id⟩
    · split
      · obtain ⟨a1, a2, a3⟩ := slotsGo_len ks c (n + 1) (compsGo b ks 0 (RdS.get b ⟨(natR b s.p).2.2, false⟩ 1).2 []).2 (gs ++ [((natR b s.p).1.toNat : Int)]) (its ++ [⟨⟨n, ((natR b s.p).1.toNat : Int)⟩, (compsGo b ks 0 (RdS.get b ⟨(natR b s.p).2.2, false⟩ 1).2 []).1⟩])
        refine ⟨Nat.le_trans a1 (by simp only [List.length_append, List.length_singleton]; omega), Nat.le_trans a2 (by simp only [List.length_append, List.length_singleton]; omega), fun h => a3 fun it hit => ?_⟩
        rcases List.mem_append.1 hit with hit | hit
        · exact h it hit
        · rw [List.mem_singleton] at hit
          subst hit
          exact Nat.le_trans (compsGo_len ks _ _ _) (by simp)
      · obtain ⟨a1, a2, a3⟩ := slotsGo_len ks c (n + 1) (RdS.get b ⟨(natR b s.p).2.2, false⟩ 1).2 (gs ++ [((natR b s.p).1.toNat : Int)]) its
        exact ⟨Nat.le_trans a1 (by simp only [List.length_append, List.length_singleton]; omega), by omega, a3⟩
/-- What a failing save.Read returns. -/
abbrev noWd : Wd := ⟨[], [], []⟩
set_option maxHeartbeats 4000000 in
theorem read_ps (b : List UInt8) (hb : b.length ≤ 17592186044416) : PS Try.prog 8 [ysA b] (.tup [wdA false (readM b).1, iA (readM b).2]) := by
  have hbm : (b.map yA).length = b.length := List.length_map _
  unfold readM
  refine Spec.of (nt := 74) (res := [.cell 2 29, .tmp 3]) Try.func8 rfl (by kernel_rfl) rfl rfl rfl fun Sf => ?_
  (repeat refine WF ?_); refine AWP.region ?_; (repeat (first | refine WO ?_ | refine All.i fun Z => ?_ | refine AllY.i fun Y => ?_)); refine AOps.nil ?_; (repeat refine WN ?_)
  (repeat first | refine AOps.nil ?_ | refine WF ?_)
  (repeat refine WF ?_); refine AWP.region ?_; (repeat (first | refine WO ?_ | refine All.i fun X => ?_ | refine AllY.i fun Y => ?_)); refine AOps.nil ?_; (repeat refine WN ?_)
  (repeat first | refine AOps.nil ?_ | refine WF ?_)
  refine AWP.cond rfl (fun h1 => ?_) (fun h1 => ?_)
  · have h1 : 65536 < b.length := by rw [decide_eq_true_eq, hbm] at h1; omega
    rw [if_pos h1]
    (repeat (first | refine WK ?_ | refine All.i fun X => ?_ | refine AllY.i fun Y => ?_))
    (refine AWP.ret ?_; (repeat (first | refine inB_r ?_ | refine andThen_r ?_)); refine retQ_r ?_)
    exact Ends.cv [.agg [.prim (.slice none 0 0), .prim (.slice none 0 0), .prim (.slice none 0 0)], iA 2] [wdA false noWd, iA 2] (.cons (.agg (.cons .nil (.cons .nil (.cons .nil .nil)))) (.cons (.cell .same) .nil))
  have h1 : b.length ≤ 65536 := by rw [decide_eq_false_iff_not, hbm] at h1; omega
  rw [if_neg (by omega)]
  (repeat first | refine AOps.nil ?_ | refine WF ?_)
  (repeat refine WF ?_); refine AWP.region ?_; (repeat (first | refine WO ?_ | refine All.i fun X => ?_ | refine AllY.i fun Y => ?_)); refine AOps.nil ?_; (repeat refine WN ?_)
  (repeat first | refine AOps.nil ?_ | refine WF ?_)
  refine AWP.cond rfl (fun h2 => ?_) (fun h2 => ?_)
  · have h2 : b.length < 8 := by rw [decide_eq_true_eq, hbm] at h2; omega
    rw [if_pos h2]
    (repeat (first | refine WK ?_ | refine All.i fun X => ?_ | refine AllY.i fun Y => ?_))
    (refine AWP.ret ?_; (repeat (first | refine inB_r ?_ | refine andThen_r ?_)); refine retQ_r ?_)
    exact Ends.cv [.agg [.prim (.slice none 0 0), .prim (.slice none 0 0), .prim (.slice none 0 0)], iA 14] [wdA false noWd, iA 14] (.cons (.agg (.cons .nil (.cons .nil (.cons .nil .nil)))) (.cons (.cell .same) .nil))
  have h2 : 8 ≤ b.length := by rw [decide_eq_false_iff_not, hbm] at h2; omega
  rw [if_neg (by omega)]
  obtain ⟨B, hB⟩ : ∃ B, b.take (b.length - 8) = B := ⟨_, rfl⟩
  have hBl : B.length = b.length - 8 := by rw [← hB, List.length_take]; omega
  have hBm : (B.map yA).length = B.length := List.length_map _
  have hBt : (b.map yA).take (b.length - 8) = B.map yA := by rw [← hB, List.map_take]
  rw [hB]
  have hse := fun X => seal_sp X B _ hBm (by omega)
  obtain ⟨SB, hSB⟩ : ∃ x, sealB B = x := ⟨_, rfl⟩
  rw [hSB] at hse ⊢
  have heq := bEqual_ps SB b
  (repeat first | refine AOps.nil ?_ | refine WF ?_)
  (repeat refine WF ?_); refine AWP.region ?_; (repeat (first | (refine AOps.gN ?_; first | refine AOps.go (h := W.subE ((b.length - 8 : Nat) : Int) (by omega) (by omega) rfl rfl) (k := ?_) | refine AOps.go (h := W.hiL rfl rfl rfl (by rw [hbm]; omega)) (k := ?_)) | refine WO ?_ | refine All.i fun X => ?_ | refine AllY.i fun Y => ?_))
  rw [hBt]
  (repeat first | refine AOps.nil ?_ | refine WF ?_)
  refine AWP.rs fun Y => ?_
  (repeat refine WF ?_); refine AWP.region ?_; (repeat (first | (refine AOps.gN ?_; first | (refine AOps.g_callf ?_; first | refine AOps.c2 (h := (heq ..)) (k := ?_)) | refine AOps.s (W.appN (by rw [hBm]; omega) (by rw [hBm]; unfold maxLen; omega) rfl rfl (by exact At.f)) rfl ?_ | refine AOps.eU1 (h := hse _) fun K4 => ?_) | refine WO ?_ | refine All.i fun X => ?_ | refine AllY.i fun Y => ?_)); refine AOps.nil ?_; (repeat refine WN ?_)
  (repeat first | refine AOps.nil ?_ | refine WF ?_)
  refine AWP.cond rfl (fun h3 => ?_) (fun h3 => ?_)
  · have h3 : SB ≠ b := by simpa using h3
    rw [if_pos h3]
    (repeat (first | refine WK ?_ | refine All.i fun X => ?_ | refine AllY.i fun Y => ?_))
    (refine AWP.ret ?_; (repeat (first | refine inB_r ?_ | refine andThen_r ?_)); refine retQ_r ?_)
    exact Ends.cv [.agg [.prim (.slice none 0 0), .prim (.slice none 0 0), .prim (.slice none 0 0)], iA 13] [wdA false noWd, iA 13] (.cons (.agg (.cons .nil (.cons .nil (.cons .nil .nil)))) (.cons (.cell .same) .nil))
  have h3 : SB = b := by simpa using h3
  rw [if_neg (fun h => h h3)]
  obtain ⟨RB, hRB⟩ : ∃ z, readB B = z := ⟨_, rfl⟩
  rw [hRB]
  unfold readB at hRB
  have hnw := bitsNew_ps B (by omega)
  have hBb : B.length ≤ 65536 := by omega
  have g1 := fun R X => rget_sp R X B ⟨0, false⟩ 8 hBb (Nat.zero_le _) (by decide)
  have g2 := get_le (b := B) (s := ⟨0, false⟩) (n := 8) (Nat.zero_le _)
  obtain ⟨⟨c1, s1⟩, hz⟩ : ∃ z, RdS.get B ⟨0, false⟩ 8 = z := ⟨_, rfl⟩
  rw [hz] at g1 g2 hRB
  dsimp only at g1 g2 hRB
  (repeat first | refine AOps.nil ?_ | refine WF ?_)
  refine AWP.rs fun R => ?_
  (repeat refine WF ?_); refine AWP.region ?_; (repeat (first | (refine AOps.gN ?_; first | (refine AOps.g_callf ?_; first | refine AOps.z1 (h := hnw) (hT := .v (.cell (.bx (Y := R) rfl) rfl rfl)) (k := ?_))) | refine WO ?_ | refine All.i fun X => ?_ | refine AllY.i fun Y => ?_)); refine AOps.nil ?_; (repeat refine WN ?_)
  (repeat first | refine AOps.nil ?_ | refine WF ?_)
  (repeat refine WF ?_); refine AWP.region ?_; (repeat (first | (refine AOps.gN ?_; first | (refine AOps.g_callf ?_; first | refine AOps.z2 (h := g1 _ _) (hT := .fz) (k := ?_))) | refine WO ?_ | refine All.i fun X => ?_ | refine AllY.i fun Y => ?_)); refine AOps.nil ?_; (repeat refine WN ?_)
  (repeat first | refine AOps.nil ?_ | refine WF ?_)
  refine AWP.cond rfl (fun h4 => ?_) (fun h4 => ?_)
  · have h4 : c1 ≠ 1 ∨ s1.bad = true := by
      simp only [Bool.or_eq_true, decide_eq_true_eq] at h4
      rcases h4 with h4 | h4
      · exact .inl (by omega)
      · exact .inr h4
    rw [if_pos h4] at hRB
    subst hRB
    rw [if_pos (by simp)]
    (repeat (first | refine WK ?_ | refine All.i fun X => ?_ | refine AllY.i fun Y => ?_))
    (refine AWP.ret ?_; (repeat (first | refine inB_r ?_ | refine andThen_r ?_)); refine retQ_r ?_)
    exact Ends.cv [.agg [.prim (.slice none 0 0), .prim (.slice none 0 0), .prim (.slice none 0 0)], iA 3] [wdA false noWd, iA 3] (.cons (.agg (.cons .nil (.cons .nil (.cons .nil .nil)))) (.cons (.cell .same) .nil))
  have h4 : ¬ (c1 ≠ 1 ∨ s1.bad = true) := by
    simp only [Bool.or_eq_false_iff, decide_eq_false_iff_not] at h4
    rintro (h | h)
    · omega
    · rw [h4.2] at h; cases h
  rw [if_neg h4] at hRB
  have g3 := fun R X => rkinds_sp R X B s1 hBb g2
  have g4 := kindsGo_le (b := B) (s1.get B 5).1 (s1.get B 5).2 [] (get_le g2)
  have g5 : (kindsR B s1).2.p ≤ 8 * B.length := g4
  clear g4
  obtain ⟨⟨KS, s2⟩, hkr⟩ : ∃ z, kindsR B s1 = z := ⟨_, rfl⟩
  rw [hkr] at g3 g5 hRB
  dsimp only at g3 g5 hRB
  (repeat first | refine AOps.nil ?_ | refine WF ?_)
  (repeat refine WF ?_); refine AWP.region ?_; (repeat (first | (refine AOps.gN ?_; first | (refine AOps.g_callf ?_; first | refine AOps.z1 (h := g3 _ _) (hT := .fz) (k := ?_))) | refine WO ?_ | refine All.i fun X => ?_ | refine AllY.i fun Y => ?_)); refine AOps.nil ?_; (repeat refine WN ?_)
  (repeat first | refine AOps.nil ?_ | refine WF ?_)
  (repeat refine WF ?_); refine AWP.region ?_; (repeat (first | refine WO ?_ | refine All.i fun X => ?_ | refine AllY.i fun Y => ?_)); refine AOps.nil ?_; (repeat refine WN ?_)
  (repeat first | refine AOps.nil ?_ | refine WF ?_)
  refine AWP.cond rfl (fun h5 => ?_) (fun h5 => ?_)
  · have h5 : s2.bad = true ∨ checkErr KS ≠ 0 := by
      simpa using h5
    rw [if_pos h5] at hRB
    subst hRB
    rw [if_pos (by simp)]
    (repeat (first | refine WK ?_ | refine All.i fun X => ?_ | refine AllY.i fun Y => ?_))
    (refine AWP.ret ?_; (repeat (first | refine inB_r ?_ | refine andThen_r ?_)); refine retQ_r ?_)
    exact Ends.cv [.agg [.prim (.slice none 0 0), .prim (.slice none 0 0), .prim (.slice none 0 0)], iA 3] [wdA false noWd, iA 3] (.cons (.agg (.cons .nil (.cons .nil (.cons .nil .nil)))) (.cons (.cell .same) .nil))
  have h5 : s2.bad = false ∧ checkErr KS = 0 := by simpa using h5
  rw [if_neg (by rintro (h | h); rw [h5.1] at h; cases h; exact h h5.2)] at hRB
  have hKS : ∀ k ∈ KS, KOK k := fun k hk => kok_of ((checkErr_one h5.2).2 k hk)
  have h16 : KS.length ≤ 16 := (checkErr_one h5.2).1
  obtain ⟨s2p, s2b⟩ := s2
  obtain ⟨rfl, h5'⟩ : s2b = false ∧ checkErr KS = 0 := h5
  rw [h5']
  have g6 := fun R X => ritems_sp R X B ⟨s2p, false⟩ KS hKS h16 rfl hBb g5
  have g7 : (slotsR B KS ⟨s2p, false⟩).1.length ≤ 0 + _ ∧ (slotsR B KS ⟨s2p, false⟩).2.1.length ≤ 0 + _ ∧ ((∀ it ∈ ([] : List Item), it.comps.length ≤ KS.length) → ∀ it ∈ (slotsR B KS ⟨s2p, false⟩).2.1, it.comps.length ≤ KS.length) := slotsGo_len KS (RdS.get B ⟨s2p, false⟩ 9).1 0 (RdS.get B ⟨s2p, false⟩ 9).2 [] []
  have g8 := get_lt (b := B) (s := ⟨s2p, false⟩) (n := 9) (by decide)
  obtain ⟨⟨GS, IS, s3⟩, hsr⟩ : ∃ z, slotsR B KS ⟨s2p, false⟩ = z := ⟨_, rfl⟩
  rw [hsr] at g6 g7 hRB
  dsimp only at g6 g7 hRB
  obtain ⟨g7, g9, g10⟩ := g7
  have g10 := g10 (by simp)
  (repeat first | refine AOps.nil ?_ | refine WF ?_)
  (repeat refine WF ?_); refine AWP.region ?_; (repeat (first | (refine AOps.gN ?_; first | (refine AOps.g_callf ?_; first | refine AOps.z2 (h := g6 _ _) (hT := .fz) (k := ?_))) | refine WO ?_ | refine All.i fun V => ?_ | refine AllY.i fun Y => ?_)); refine AOps.nil ?_; (repeat refine WN ?_)
  (repeat first | refine AOps.nil ?_ | refine WF ?_)
  (repeat refine WF ?_); refine AWP.region ?_; (repeat (first | refine WO ?_ | refine All.i fun X => ?_ | refine AllY.i fun Y => ?_)); refine AOps.nil ?_; (repeat refine WN ?_)
  (repeat first | refine AOps.nil ?_ | refine WF ?_)
  refine AWP.cond rfl (fun h6 => ?_) (fun h6 => ?_)
  · have h6 : s3.bad = true := h6
    rw [if_pos h6] at hRB
    subst hRB
    rw [if_pos (by simp)]
    (repeat (first | refine WK ?_ | refine All.i fun X => ?_ | refine AllY.i fun Y => ?_))
    (refine AWP.ret ?_; (repeat (first | refine inB_r ?_ | refine andThen_r ?_)); refine retQ_r ?_)
    exact Ends.cv [.agg [.prim (.slice none 0 0), .prim (.slice none 0 0), .prim (.slice none 0 0)], iA 3] [wdA false noWd, iA 3] (.cons (.agg (.cons .nil (.cons .nil (.cons .nil .nil)))) (.cons (.cell .same) .nil))
  have h6 : s3.bad = false := h6
  rw [if_neg (by rw [h6]; simp)] at hRB
  subst hRB
  rw [if_neg (by simp)]
  have hwr := write_ps ⟨KS, GS, IS⟩ (by show GS.length ≤ _; omega) (by show IS.length ≤ _; omega) (fun it hit => by have := g10 it hit; omega)
  obtain ⟨⟨wb, we⟩, hwe⟩ : ∃ z, writeM ⟨KS, GS, IS⟩ = z := ⟨_, rfl⟩
  rw [hwe] at hwr ⊢
  dsimp only at hwr
  have heq2 := bEqual_ps wb b
  (repeat first | refine AOps.nil ?_ | refine WF ?_)
  (repeat refine WF ?_); refine AWP.region ?_; (repeat (first | (refine AOps.gN ?_; first | (refine AOps.g_callf ?_; first | refine AOps.c1 (h := (hwr ..)) (k := ?_))) | refine WO ?_ | refine All.i fun X => ?_ | refine AllY.i fun Y => ?_)); refine AOps.nil ?_; (repeat refine WN ?_)
  (repeat first | refine AOps.nil ?_ | refine WF ?_)
  (repeat refine WF ?_); refine AWP.region ?_; (repeat (first | (refine AOps.gQ ?_; first | refine AOps.goQ1 (v := bA (decide (wb = b))) (h := W.call2 .q1 .q1 heq2 rfl) (k := ?_)) | refine WO ?_ | refine All.i fun X => ?_ | refine AllY.i fun Y => ?_)); refine AOps.nil ?_; (repeat refine WN ?_)
  (repeat first | refine AOps.nil ?_ | refine WF ?_)
  refine AWP.cond rfl (fun h7 => ?_) (fun h7 => ?_)
  · have h7 : ¬ ((wb, we) = (b, 0)) := by
      simp only [Bool.or_eq_true, decide_eq_true_eq, Bool.not_eq_true', decide_eq_false_iff_not] at h7
      intro e
      injection e with e1 e2
      rcases h7 with h7 | h7
      · exact h7 e2
      · exact h7 e1
    rw [if_neg h7]
    (repeat (first | refine WK ?_ | refine All.i fun X => ?_ | refine AllY.i fun Y => ?_))
    (refine AWP.ret ?_; (repeat (first | refine inB_r ?_ | refine andThen_r ?_)); refine retQ_r ?_)
    exact Ends.cv [.agg [.prim (.slice none 0 0), .prim (.slice none 0 0), .prim (.slice none 0 0)], iA 3] [wdA false noWd, iA 3] (.cons (.agg (.cons .nil (.cons .nil (.cons .nil .nil)))) (.cons (.cell .same) .nil))
  have h7 : (wb, we) = (b, 0) := by
    simp only [Bool.or_eq_false_iff, decide_eq_false_iff_not, Bool.not_eq_false', decide_eq_true_eq] at h7
    obtain ⟨e1, e2⟩ := h7
    rw [e2, Classical.not_not.1 e1]
  rw [if_pos h7]
  (repeat (first | refine WK ?_ | refine All.i fun X => ?_ | refine AllY.i fun Y => ?_))
  (refine AWP.ret ?_; (repeat (first | refine inB_r ?_ | refine andThen_r ?_)); refine retQ_r ?_)
  exact Ends.sp [wdA false ⟨KS, GS, IS⟩, iA 0] [] ⟨rfl, rfl⟩
end Go.Proofs.Ytbfcbfgpbbkecaa

namespace Go.Proofs.Ytbfcbfgpbbkecaa
set_option linter.unusedVariables false
theorem flatMap_le {α : Type} {f : α → List (List Bool)} {n : Nat} : ∀ {l : List α}, (∀ x ∈ l, (f x).flatten.length ≤ n) → (l.flatMap f).flatten.length ≤ l.length * n
  | [], _ => by simp
  | a :: l, h => by
    have h1 := h a (by simp)
    have h2 := flatMap_le (l := l) fun x hx => h x (by simp [hx])
    rw [List.flatMap_cons, List.flatten_append, List.length_append, List.length_cons, Nat.succ_mul]
    omega
theorem map_le {α : Type} {f : α → List Bool} {n : Nat} : ∀ {l : List α}, (∀ x ∈ l, (f x).length ≤ n) → (l.map f).flatten.length ≤ l.length * n
  | [], _ => by simp
  | a :: l, h => by
    have h1 := h a (by simp)
    have h2 := map_le (l := l) fun x hx => h x (by simp [hx])
    rw [List.map_cons, List.flatten_cons, List.length_append, List.length_cons, Nat.succ_mul]
    omega
theorem natBits_le (v : UInt64) : (natBits v).length ≤ 80 := by
  have := groupsU_le v
  rw [natBits_len]; omega
theorem nameC_le {s : List UInt8} (h : nameOk s = true) : (nameC s).flatten.length ≤ 101 := by
  have h1 := (nameOk_let h).2.1
  have h2 := map_le (l := s) (f := fun c => bitsU (UInt64.ofNat (letterN c)) 6) (n := 6) fun x _ => Nat.le_of_eq (bitsU_len _ _)
  unfold nameC
  rw [List.flatten_cons, List.length_append, bitsU_len]
  omega
theorem fieldCh_le {f : Field} (h : fieldErr f = 0) : (fieldCh f).flatten.length ≤ 186 := by
  have h1 := nameC_le (fieldErr_sv h).1
  have h2 := natBits_le (zig f.low)
  unfold fieldCh
  rw [List.flatten_append, List.length_append, List.flatten_cons, List.flatten_cons, List.flatten_nil, List.append_nil, List.length_append, bitsU_len]
  omega
theorem kindCh_le {k : Kind} (h : KOK k) : (kindCh k).flatten.length ≤ 1593 := by
  have h1 := nameC_le h.name
  have h2 := flatMap_le (l := k.fields) (f := fieldCh) fun x hx => fieldCh_le (h.fs x hx)
  have h3 := h.len
  unfold kindCh
  rw [List.flatten_append, List.length_append, List.flatten_cons, List.length_append, bitsU_len]
  omega
theorem valsC_le {fs : List Field} {vs : List Int} (h8 : fs.length ≤ 8) (h : ∀ f ∈ fs, fieldErr f = 0) : (valsC fs vs).flatten.length ≤ 256 := by
  have h1 := map_le (l := fs.zip vs) (f := fun q => bitsU (UInt64.ofInt (q.2 - q.1.low)) q.1.bits.toNat) (n := 32) fun q hq => by
    rw [bitsU_len]
    have := (fieldErr_sv (h _ (List.of_mem_zip hq).1)).2.2.1
    omega
  have h2 : (fs.zip vs).length ≤ 8 := by rw [List.length_zip]; omega
  unfold valsC
  omega
theorem compsC_le : ∀ (ks : List Kind) (i : Nat) (l : List Comp), (∀ k ∈ ks, KOK k) → (compsC ks i l).flatten.length ≤ ks.length * 257
  | [], i, l, h => by simp [compsC]
  | k :: ks, i, [], h => by
    have h1 := compsC_le ks (i + 1) [] fun k hk => h k (by simp [hk])
    rw [compsC, List.flatten_cons, List.length_append, bitsU_len, List.length_cons]
    omega
  | k :: ks, i, c :: l, h => by
    have hk := h k (by simp)
    rw [compsC]
    split
    · have h1 := compsC_le ks (i + 1) l fun k hk => h k (by simp [hk])
      have h2 := valsC_le (vs := c.vals) hk.len hk.fs
      rw [List.flatten_cons, List.length_append, bitsU_len, List.length_cons, List.flatten_append, List.length_append]
      omega
    · have h1 := compsC_le ks (i + 1) (c :: l) fun k hk => h k (by simp [hk])
      rw [List.flatten_cons, List.length_append, bitsU_len, List.length_cons]
      omega
theorem slotsC_le {ks : List Kind} (h : ∀ k ∈ ks, KOK k) (h16 : ks.length ≤ 16) : ∀ (gs : List Int) (n : Nat) (l : List Item), (slotsC ks gs n l).flatten.length ≤ gs.length * 4193
  | [], n, l => by simp [slotsC]
  | g :: gs, n, [] => by
    have h1 := slotsC_le h h16 gs (n + 1) []
    have h2 := natBits_le (UInt64.ofInt g)
    rw [slotsC, List.flatten_cons, List.flatten_cons, List.length_append, List.length_append, bitsU_len, List.length_cons]
    omega
  | g :: gs, n, it :: l => by
    have h2 := natBits_le (UInt64.ofInt g)
    rw [slotsC]
    split
    · have h1 := slotsC_le h h16 gs (n + 1) l
      have h3 := compsC_le ks 0 it.comps h
      rw [List.flatten_cons, List.flatten_cons, List.length_append, List.length_append, bitsU_len, List.length_cons, List.flatten_append, List.length_append]
      omega
    · have h1 := slotsC_le h h16 gs (n + 1) (it :: l)
      rw [List.flatten_cons, List.flatten_cons, List.length_append, List.length_append, bitsU_len, List.length_cons]
      omega
theorem worldC_le {w : Wd} (h : WdOK w) (hg : w.gens.length ≤ 12) : (worldC w).flatten.length ≤ 100000 := by
  have hks : ∀ k ∈ w.kinds, KOK k := fun k hk => kok_of ((checkErr_one h.ks).2 k hk)
  have h16 := (checkErr_one h.ks).1
  have h1 := flatMap_le (l := w.kinds) (f := kindCh) fun x hx => kindCh_le (hks x hx)
  have h2 := slotsC_le hks h16 w.gens 0 w.items
  unfold worldC kindsC
  simp only [List.flatten_cons, List.length_append, bitsU_len, List.flatten_append, List.cons_append]
  omega
/-- A small valid world is written. -/
theorem write_ok {w : Wd} (h : WdOK w) (hg : w.gens.length ≤ 12) : ∃ b, writeM w = (sealB b, 0) ∧ 1 ≤ b.length ∧ b.length ≤ 20000 := by
  have h0 := (wdErr_iff w).2 h
  have hl := worldC_le h hg
  have hs := adds_ok (worldC w) ⟨[], 0⟩ rfl (by show 0 + _ ≤ _; omega)
  have h1 : 8 ≤ (worldC w).flatten.length := by
    unfold worldC
    rw [List.flatten_cons, List.length_append, bitsU_len]
    omega
  refine ⟨packB (worldC w).flatten, ?_, by rw [packB_len]; omega, by rw [packB_len]; omega⟩
  unfold writeM
  rw [hs, h0]
  dsimp only [List.nil_append]
  rw [if_neg (by simp), if_neg (by rw [packB_len]; rintro (h | h); exact h rfl; omega)]
theorem sealB_len (b : List UInt8) : (sealB b).length = b.length + 8 := by rw [sealB, List.length_append, le8_len]
theorem base_ok : WdOK baseWd := (wdErr_iff _).1 (by decide)
theorem wAt_gl (ks : List Kind) (l : List Int) (i : Nat) : (wAt ks l i).1.length = i := by
  induction i with
  | zero => rfl
  | succ i ih => rw [wAt]; split <;> simp [ih]
theorem genWorld_gl (l : List Int) : (genWorld l).gens.length ≤ 12 := by
  show (wAt _ _ _).1.length ≤ 12
  rw [wAt_gl]
  have := nextV_range (genKinds l).2 (n := 12) (by decide)
  omega
end Go.Proofs.Ytbfcbfgpbbkecaa

namespace Go.Proofs.Ytbfcbfgpbbkecaa
set_option linter.unusedVariables false
theorem equalFuncK_ps (a b : List Kind) (f : FuncId) (cap : List AV) (p : Kind → Kind → Bool) (hs : st1s cap = true) (hl : a.length ≤ 4611686018427387904) (hf : ∀ x ∈ a, ∀ y ∈ b, PS Try.prog f ((kindA false) x :: (kindA false) y :: cap) (bA (p x y))) :
    PS Try.prog 47 [.lst false 81 2 (a.map (kindA false)), .lst false 81 2 (b.map (kindA false)), .fn f cap] (bA (eqF p a b)) := by
  refine Spec.of (nt := 32) (res := [.tmp 6]) Try.func47 rfl (by kernel_rfl) rfl rfl rfl fun Sf => ?_
  (repeat (first | refine WK ?_ | refine All.i fun X => ?_ | refine AllY.i fun Y => ?_))
  refine AWP.cond rfl (fun hb => ?_) (fun hb => ?_)
  · have hb : a.length ≠ b.length := by simp at hb; omega
    (repeat (first | refine WK ?_ | refine All.i fun X => ?_ | refine AllY.i fun Y => ?_))
    (refine AWP.ret ?_; (repeat (first | refine inB_r ?_ | refine andThen_r ?_)); refine retQ_r ?_); refine Ends.ps ?_
    rw [eqF_len hb]
  · have hb : a.length = b.length := by simp at hb; omega
    (repeat (first | refine WK ?_ | refine All.i fun X => ?_ | refine AllY.i fun Y => ?_))
    refine AWP.lp (fun i : Nat => ⟨[(0, .lst false 81 2 (a.map (kindA false))), (1, .lst false 81 2 (b.map (kindA false))), (2, .fn f cap), (15, .lst false 81 2 (a.map (kindA false))), (16, iA (a.map (kindA false)).length), (17, iA i)], Sf⟩) (fun i => i ≤ a.length ∧ ∀ j (h : j < a.length), j < i → p a[j] (b[j]'(by omega)) = true) (fun i => a.length - i) 0 ⟨Nat.zero_le _, fun j h hj => absurd hj (by omega)⟩ ?_
    rintro i ⟨hi, he⟩
    (repeat (first | refine WK ?_ | refine All.i fun X => ?_ | refine AllY.i fun Y => ?_))
    refine AWP.cond rfl (fun hc => ?_) (fun hc => ?_)
    · have h : i < a.length := by simpa using hc
      have h' : i < b.length := by omega
      (repeat (first | (refine AOps.gN ?_; first | (refine AOps.g_callv ?_; first | refine AOps.k2 (h := (hf _ (List.getElem_mem h) _ (List.getElem_mem h'))) (k := ?_))) | refine WK ?_ | refine All.i fun X => ?_ | refine AllY.i fun Y => ?_))
      refine AWP.cond rfl (fun hd => ?_) (fun hd => ?_)
      · have hd : p a[i] b[i] = false := by simpa using hd
        (repeat (first | refine WK ?_ | refine All.i fun X => ?_ | refine AllY.i fun Y => ?_))
        (refine AWP.ret ?_; (repeat (first | refine inB_r ?_ | refine andThen_r ?_)); refine retQ_r ?_); refine Ends.ps ?_
        rw [eqF_no hb h hd]
      · have hd : p a[i] b[i] = true := by simpa using hd
        (repeat (first | refine WK ?_ | refine All.i fun X => ?_ | refine AllY.i fun Y => ?_))
        refine lp_next (i + 1) ⟨h, fun j h1 h2 => ?_⟩
        by_cases e : j = i
        · subst e; exact hd
        · exact he j h1 (by omega)
    · have h : ¬ i < a.length := by simpa using hc
      (repeat (first | refine WK ?_ | refine All.i fun X => ?_ | refine AllY.i fun Y => ?_))
      (refine AWP.ret ?_; (repeat (first | refine inB_r ?_ | refine andThen_r ?_)); refine retQ_r ?_); refine Ends.ps ?_
      rw [eqF_yes hb fun j hj => he j hj (by omega)]
end Go.Proofs.Ytbfcbfgpbbkecaa

namespace Go.Proofs.Ytbfcbfgpbbkecaa
set_option linter.unusedVariables false
theorem sameCompsT1_ps (x y : Comp) (hl : x.vals.length ≤ 1099511627776) : PS Try.prog 63 [compA false x, compA false y] (bA (decide (x = y))) := by
  have heq := equalI_ps x.vals y.vals hl
  rw [← compEq]
  refine Spec.of (nt := 17) (res := [.tmp 4]) Try.func63 rfl (by kernel_rfl) rfl rfl rfl fun Sf => ?_
  (repeat refine WF ?_); refine AWP.region ?_; (repeat (first | (refine AOps.gN ?_; first | (refine AOps.g_box ?_; refine AOps.goB ?_)) | refine WO ?_ | refine All.i fun X => ?_ | refine AllY.i fun Y => ?_)); refine AOps.nil ?_; (repeat refine WN ?_)
  rcases Bool.eq_false_or_eq_true (decide (x.kind = y.kind)) with g | g
  · rw [g]
    (repeat (first | (refine AOps.gN ?_; first | (refine AOps.g_callf ?_; first | refine AOps.c2 (h := (heq ..)) (k := ?_))) | refine WK ?_ | refine All.i fun X => ?_ | refine AllY.i fun Y => ?_))
    (refine AWP.ret ?_; (repeat (first | refine inB_r ?_ | refine andThen_r ?_)); refine retQ_r ?_); refine Ends.ps ?_
    rfl
  · rw [g]
    (repeat (first | refine WK ?_ | refine All.i fun X => ?_ | refine AllY.i fun Y => ?_))
    (refine AWP.ret ?_; (repeat (first | refine inB_r ?_ | refine andThen_r ?_)); refine retQ_r ?_); refine Ends.ps ?_
    rfl
theorem sameCompsT_ps (a b : List Comp) (hl : CsL a) : PS Try.prog 52 [compsA false false a, compsA false false b] (bA (decide (a = b))) := by
  have h := equalFuncC_ps a b 63 [] (fun x y => decide (x = y)) rfl (by have := hl.1; omega) (fun x hx y _ => sameCompsT1_ps x y (hl.2 x hx))
  rw [eqF_eq fun _ _ _ _ => rfl] at h
  refine Spec.of (nt := 8) (res := [.tmp 4]) Try.func52 rfl (by kernel_rfl) rfl rfl rfl fun Sf => ?_
  (repeat (first | (refine AOps.gN ?_; first | (refine AOps.g_callf ?_; first | refine AOps.c3 (h := (h ..)) (k := ?_))) | refine WK ?_ | refine All.i fun X => ?_ | refine AllY.i fun Y => ?_))
  (refine AWP.ret ?_; (repeat (first | refine inB_r ?_ | refine andThen_r ?_)); refine retQ_r ?_); refine Ends.ps ?_
  rfl
theorem sameItemsT1_ps (x y : Item) (hl : CsL x.comps) : PS Try.prog 51 [itemA false x, itemA false y] (bA (decide (x = y))) := by
  have heq := sameCompsT_ps x.comps y.comps hl
  rw [← itemEq]
  refine Spec.of (nt := 17) (res := [.tmp 4]) Try.func51 rfl (by kernel_rfl) rfl rfl rfl fun Sf => ?_
  (repeat refine WF ?_); refine AWP.region ?_; (repeat (first | (refine AOps.gN ?_; first | (refine AOps.g_box ?_; refine AOps.goB ?_)) | refine WO ?_ | refine All.i fun X => ?_ | refine AllY.i fun Y => ?_)); refine AOps.nil ?_; (repeat refine WN ?_)
  have hE := entEql x.ent.n x.ent.gen y.ent.n y.ent.gen
  rw [show (decide (x.ent.n = y.ent.n) && decide (x.ent.gen = y.ent.gen)) = sameE x.ent y.ent from rfl] at hE
  cases hb : sameE x.ent y.ent
  · rw [hb] at hE
    (repeat (first | (refine AOps.gN ?_; first | refine AOps.p (W.eqP _ _ (by kernel_rfl) hE rfl rfl) rfl ?_) | refine WK ?_ | refine All.i fun X => ?_ | refine AllY.i fun Y => ?_))
    (refine AWP.ret ?_; (repeat (first | refine inB_r ?_ | refine andThen_r ?_)); refine retQ_r ?_); refine Ends.ps ?_
    rfl
  · rw [hb] at hE
    (repeat (first | (refine AOps.gN ?_; first | (refine AOps.g_callf ?_; first | refine AOps.c2 (h := (heq ..)) (k := ?_)) | refine AOps.p (W.eqP _ _ (by kernel_rfl) hE rfl rfl) rfl ?_) | refine WK ?_ | refine All.i fun X => ?_ | refine AllY.i fun Y => ?_))
    (refine AWP.ret ?_; (repeat (first | refine inB_r ?_ | refine andThen_r ?_)); refine retQ_r ?_); refine Ends.ps ?_
    rfl
theorem sameItemsT_ps (a b : List Item) (hl : ItL a) : PS Try.prog 33 [itemsA false false a, itemsA false false b] (bA (decide (a = b))) := by
  have h := equalFuncT_ps a b 51 [] (fun x y => decide (x = y)) rfl (by have := hl.1; omega) (fun x hx y _ => sameItemsT1_ps x y (hl.2 x hx))
  rw [eqF_eq fun _ _ _ _ => rfl] at h
  refine Spec.of (nt := 8) (res := [.tmp 4]) Try.func33 rfl (by kernel_rfl) rfl rfl rfl fun Sf => ?_
  (repeat (first | (refine AOps.gN ?_; first | (refine AOps.g_callf ?_; first | refine AOps.c3 (h := (h ..)) (k := ?_))) | refine WK ?_ | refine All.i fun X => ?_ | refine AllY.i fun Y => ?_))
  (refine AWP.ret ?_; (repeat (first | refine inB_r ?_ | refine andThen_r ?_)); refine retQ_r ?_); refine Ends.ps ?_
  rfl
theorem equalF_ps (a b : List Field) (hl : a.length ≤ 1099511627776) : PS Try.prog 49 [fieldsA false a, fieldsA false b] (bA (decide (a = b))) := by
  refine Spec.of (nt := 26) (res := [.tmp 4]) Try.func49 rfl (by kernel_rfl) rfl rfl rfl fun Sf => ?_
  (repeat (first | refine WK ?_ | refine All.i fun X => ?_ | refine AllY.i fun Y => ?_))
  refine AWP.cond rfl (fun hb => ?_) (fun hb => ?_)
  · have hb : a.length ≠ b.length := by simp at hb; omega
    (repeat (first | refine WK ?_ | refine All.i fun X => ?_ | refine AllY.i fun Y => ?_))
    (refine AWP.ret ?_; (repeat (first | refine inB_r ?_ | refine andThen_r ?_)); refine retQ_r ?_); refine Ends.ps ?_
    rw [decide_eq_false fun e => hb (by rw [e])]
  · have hb : a.length = b.length := by simp at hb; omega
    (repeat (first | refine WK ?_ | refine All.i fun X => ?_ | refine AllY.i fun Y => ?_))
    refine AWP.lp (fun i : Nat => ⟨[(0, fieldsA false a), (1, fieldsA false b), (12, iA (a.map fieldA).length), (13, iA i)], Sf⟩) (fun i => i ≤ a.length ∧ ∀ j (h : j < a.length), j < i → a[j] = b[j]'(by omega)) (fun i => a.length - i) 0 ⟨Nat.zero_le _, fun j h hj => absurd hj (by omega)⟩ ?_
    rintro i ⟨hi, he⟩
    (repeat (first | refine WK ?_ | refine All.i fun X => ?_ | refine AllY.i fun Y => ?_))
    refine AWP.cond rfl (fun hc => ?_) (fun hc => ?_)
    · have h : i < a.length := by simpa using hc
      have h' : i < b.length := by omega
      obtain ⟨f, hf⟩ : ∃ f, a[i] = f := ⟨_, rfl⟩
      obtain ⟨g, hg⟩ : ∃ g, b[i] = g := ⟨_, rfl⟩
      have haf : (a.map fieldA)[i]? = some (fieldA f) := by rw [List.getElem?_map, List.getElem?_eq_getElem h, hf]; rfl
      have hag : (b.map fieldA)[i]? = some (fieldA g) := by rw [List.getElem?_map, List.getElem?_eq_getElem h', hg]; rfl
      (repeat (first | refine WK ?_ | refine All.i fun X => ?_ | refine AllY.i fun Y => ?_))
      (repeat refine WF ?_); refine AWP.region_run (by kernel_rfl) (by kernel_rfl) ?_; (repeat (first | (refine RGo.gN ?_; first | refine RGo.p (W.neP _ _ (by kernel_rfl) (fieldNeq f g) rfl rfl) rfl ?_) | (refine RGo.gQ ?_; first | refine RGo.p (W.neP _ _ (by kernel_rfl) (fieldNeq f g) rfl rfl) rfl ?_) | refine RK ?_ | refine RGo.nil (by kernel_rfl) ?_))
      (repeat (first | refine WK ?_ | refine All.i fun X => ?_ | refine AllY.i fun Y => ?_))
      refine AWP.cond rfl (fun hd => ?_) (fun hd => ?_)
      · have hd : f ≠ g := by simpa using hd
        (repeat (first | refine WK ?_ | refine All.i fun X => ?_ | refine AllY.i fun Y => ?_))
        (refine AWP.ret ?_; (repeat (first | refine inB_r ?_ | refine andThen_r ?_)); refine retQ_r ?_); refine Ends.ps ?_
        rw [decide_eq_false fun e => hd (by subst e; rw [← hf, ← hg])]
      · have hd : f = g := by simpa using hd
        (repeat (first | refine WK ?_ | refine All.i fun X => ?_ | refine AllY.i fun Y => ?_))
        refine lp_next (i + 1) ⟨h, fun j h1 h2 => ?_⟩
        by_cases e : j = i
        · subst e; rw [hf, hg, hd]
        · exact he j h1 (by omega)
    · have h : ¬ i < a.length := by simpa using hc
      (repeat (first | refine WK ?_ | refine All.i fun X => ?_ | refine AllY.i fun Y => ?_))
      (refine AWP.ret ?_; (repeat (first | refine inB_r ?_ | refine andThen_r ?_)); refine retQ_r ?_); refine Ends.ps ?_
      rw [decide_eq_true (List.ext_getElem hb fun j h1 h2 => he j h1 (by omega))]
theorem kindEq (x y : Kind) : (decide (x.name = y.name) && decide (x.fields = y.fields)) = decide (x = y) := by
  obtain ⟨k, v⟩ := x
  obtain ⟨k', v'⟩ := y
  rw [Bool.eq_iff_iff]
  simp
theorem sameKindsT1_ps (x y : Kind) (hl : x.fields.length ≤ 1099511627776) : PS Try.prog 48 [kindA false x, kindA false y] (bA (decide (x = y))) := by
  have heq := equalF_ps x.fields y.fields hl
  rw [← kindEq]
  refine Spec.of (nt := 17) (res := [.tmp 4]) Try.func48 rfl (by kernel_rfl) rfl rfl rfl fun Sf => ?_
  (repeat refine WF ?_); refine AWP.region ?_; (repeat (first | (refine AOps.gN ?_; first | (refine AOps.g_box ?_; refine AOps.goB ?_)) | refine WO ?_ | refine All.i fun X => ?_ | refine AllY.i fun Y => ?_)); refine AOps.nil ?_; (repeat refine WN ?_)
  rcases Bool.eq_false_or_eq_true (decide (x.name = y.name)) with g | g
  · rw [g]
    (repeat (first | (refine AOps.gN ?_; first | (refine AOps.g_callf ?_; first | refine AOps.c2 (h := (heq ..)) (k := ?_))) | refine WK ?_ | refine All.i fun X => ?_ | refine AllY.i fun Y => ?_))
    (refine AWP.ret ?_; (repeat (first | refine inB_r ?_ | refine andThen_r ?_)); refine retQ_r ?_); refine Ends.ps ?_
    rfl
  · rw [g]
    (repeat (first | refine WK ?_ | refine All.i fun X => ?_ | refine AllY.i fun Y => ?_))
    (refine AWP.ret ?_; (repeat (first | refine inB_r ?_ | refine andThen_r ?_)); refine retQ_r ?_); refine Ends.ps ?_
    rfl
theorem sameKindsT_ps (a b : List Kind) (hl : KsL a) : PS Try.prog 31 [kindsA false false a, kindsA false false b] (bA (decide (a = b))) := by
  have h := equalFuncK_ps a b 48 [] (fun x y => decide (x = y)) rfl (by have := hl.1; omega) (fun x hx y _ => sameKindsT1_ps x y (hl.2 x hx))
  rw [eqF_eq fun _ _ _ _ => rfl] at h
  refine Spec.of (nt := 8) (res := [.tmp 4]) Try.func31 rfl (by kernel_rfl) rfl rfl rfl fun Sf => ?_
  (repeat (first | (refine AOps.gN ?_; first | (refine AOps.g_callf ?_; first | refine AOps.c3 (h := (h ..)) (k := ?_))) | refine WK ?_ | refine All.i fun X => ?_ | refine AllY.i fun Y => ?_))
  (refine AWP.ret ?_; (repeat (first | refine inB_r ?_ | refine andThen_r ?_)); refine retQ_r ?_); refine Ends.ps ?_
  rfl
set_option maxRecDepth 4000 in
theorem sameT_ps (a b : Wd) (hl : WdL a) : PS Try.prog 13 [wdA false a, wdA false b] (bA (decide (a = b))) := by
  have h1 := sameKindsT_ps a.kinds b.kinds hl.ks
  have h2 := equalI_ps a.gens b.gens hl.gens
  have h3 := sameItemsT_ps a.items b.items hl.items
  rw [← wdEq]
  refine Spec.of (nt := 24) (res := [.tmp 4]) Try.func13 rfl (by kernel_rfl) rfl rfl rfl fun Sf => ?_
  (repeat refine WF ?_); refine AWP.region ?_; (repeat (first | (refine AOps.gN ?_; first | (refine AOps.g_box ?_; refine AOps.goB ?_)) | refine WO ?_ | refine All.i fun X => ?_ | refine AllY.i fun Y => ?_)); refine AOps.nil ?_; (repeat refine WN ?_)
  obtain ⟨b1, e1⟩ : ∃ b1, decide (a.kinds = b.kinds) = b1 := ⟨_, rfl⟩
  obtain ⟨b2, e2⟩ : ∃ b2, decide (a.gens = b.gens) = b2 := ⟨_, rfl⟩
  rw [e1] at h1 ⊢
  rw [e2] at h2 ⊢
  cases b1
  · (repeat (first | (refine AOps.gN ?_; first | (refine AOps.g_callf ?_; first | refine AOps.c2 (h := (h1 ..)) (k := ?_))) | refine WK ?_ | refine All.i fun X => ?_ | refine AllY.i fun Y => ?_))
    (refine AWP.ret ?_; (repeat (first | refine inB_r ?_ | refine andThen_r ?_)); refine retQ_r ?_); refine Ends.ps ?_
    rfl
  · cases b2
    · (repeat (first | (refine AOps.gN ?_; first | (refine AOps.g_callf ?_; first | refine AOps.c2 (h := (h1 ..)) (k := ?_) | refine AOps.c2 (h := (h2 ..)) (k := ?_))) | refine WK ?_ | refine All.i fun X => ?_ | refine AllY.i fun Y => ?_))
      (refine AWP.ret ?_; (repeat (first | refine inB_r ?_ | refine andThen_r ?_)); refine retQ_r ?_); refine Ends.ps ?_
      rfl
    · (repeat (first | (refine AOps.gN ?_; first | (refine AOps.g_callf ?_; first | refine AOps.c2 (h := (h1 ..)) (k := ?_) | refine AOps.c2 (h := (h2 ..)) (k := ?_) | refine AOps.c2 (h := (h3 ..)) (k := ?_))) | refine WK ?_ | refine All.i fun X => ?_ | refine AllY.i fun Y => ?_))
      (refine AWP.ret ?_; (repeat (first | refine inB_r ?_ | refine andThen_r ?_)); refine retQ_r ?_); refine Ends.ps ?_
      rfl
end Go.Proofs.Ytbfcbfgpbbkecaa

namespace Go.Proofs.Ytbfcbfgpbbkecaa
set_option linter.unusedVariables false
theorem writeW_ps (w : Wd) (h : WdOK w) : PS Try.prog 9 [wdA false w] (.tup [ysA (writeM w).1, iA (writeM w).2]) :=
  write_ps w (by have := h.gl; omega) (by have := h.il; have := h.gl; omega) fun it hit => by
    have h1 := cok_len ((sok_of h).it it hit).2.2.2
    have h2 := (checkErr_one h.ks).1
    omega
set_option maxRecDepth 8000 in
theorem saved_ps : PS Try.prog 6 [] (bA true) := by
  have h0 := base_ps
  have h1 := writeW_ps baseWd base_ok
  obtain ⟨b, hb, hb1, hb2⟩ := write_ok base_ok (by decide)
  have hr := read_write hb
  obtain ⟨s, hs⟩ : ∃ s, sealB b = s := ⟨_, rfl⟩
  have hsl : s.length = b.length + 8 := by rw [← hs, sealB_len]
  rw [hs] at hb hr
  rw [hb] at h1
  dsimp only at h1
  have h2 := read_ps s (by omega)
  rw [hr] at h2
  dsimp only at h2
  have h3 := sameT_ps baseWd baseWd base_ok.wl
  rw [decide_eq_true rfl] at h3
  have hsm : (s.map yA).length = s.length := List.length_map _
  obtain ⟨bw, hbw⟩ : ∃ w, baseWd = w := ⟨_, rfl⟩
  rw [hbw] at h0 h1 h2 h3
  have hdl : decide (((s.map yA).length : Int) < 9) = false := decide_eq_false (by omega)
  refine Spec.of (nt := 29) (res := [.tmp 0]) Try.func6 rfl (by kernel_rfl) rfl rfl rfl fun Sf => ?_
  (repeat refine WF ?_); refine AWP.region ?_; (repeat (first | refine WO ?_ | refine All.i fun X => ?_ | refine AllY.i fun Y => ?_)); refine AOps.nil ?_; (repeat refine WN ?_)
  (repeat first | refine AOps.nil ?_ | refine WF ?_)
  (repeat refine WF ?_); refine AWP.region ?_; (repeat (first | (refine AOps.gN ?_; first | (refine AOps.g_callf ?_; first | refine AOps.c0 (h := (h0 ..)) (k := ?_) | refine AOps.c1 (h := (h1 ..)) (k := ?_))) | refine WO ?_ | refine All.i fun X => ?_ | refine AllY.i fun Y => ?_)); refine AOps.nil ?_; (repeat refine WN ?_)
  (repeat first | refine AOps.nil ?_ | refine WF ?_)
  (repeat refine WF ?_); refine AWP.region ?_; (repeat (first | refine WO ?_ | refine All.i fun X => ?_ | refine AllY.i fun Y => ?_)); refine AOps.nil ?_; (repeat refine WN ?_)
  (repeat first | refine AOps.nil ?_ | refine WF ?_)
  refine AWP.cond_f rfl hdl ?_
  (repeat first | refine AOps.nil ?_ | refine WF ?_)
  (repeat refine WF ?_); refine AWP.region ?_; (repeat (first | (refine AOps.gN ?_; first | (refine AOps.g_callf ?_; first | refine AOps.c1 (h := (h2 ..)) (k := ?_))) | refine WO ?_ | refine All.i fun V => ?_ | refine AllY.i fun Y => ?_)); refine AOps.nil ?_; (repeat refine WN ?_)
  (repeat first | refine AOps.nil ?_ | refine WF ?_)
  refine AWP.rs fun Y => ?_
  (repeat refine WF ?_); refine AWP.region_run (by kernel_rfl) (by kernel_rfl) ?_; (repeat (first | (refine RGo.gN ?_; first | (refine RGo.g_callf ?_; first | refine RGo.c0 (h := (h0 ..)) (k := ?_) | refine RGo.c2 (h := (h3 ..)) (k := ?_))) | (refine RGo.gQ ?_; first | (refine RGo.g_callf ?_; first | refine RGo.c0 (h := (h0 ..)) (k := ?_) | refine RGo.c2 (h := (h3 ..)) (k := ?_))) | refine RK ?_ | refine RGo.nil (by kernel_rfl) ?_))
  (refine AWP.ret ?_; (repeat (first | refine inB_r ?_ | refine andThen_r ?_)); refine retQ_r ?_); refine Ends.ps ?_
  rfl
end Go.Proofs.Ytbfcbfgpbbkecaa

namespace Go.Proofs.Ytbfcbfgpbbkecaa
set_option linter.unusedVariables false
open Go.RowKit
def baseM (w : World) : Mem := ⟨fun _ => none, fun _ => False, w, fun b => b < w.heap.size⟩
theorem baseM_good (w : World) : Good (baseM w) (baseM w) 0 [] [] :=
  ⟨fun z hz => (by cases hz), .nil, fun b hb => (by cases hb), fun b h => h, .nil, fun x hx => (by cases hx), fun x h => h.elim, .refl _, rfl, rfl, rfl, Nat.le_refl _⟩
theorem Good.bel {w : World} {m' : Mem} {N : Nat} {Z : Zs} {br : List Nat} (G : Good (baseM w) m' N Z br) : Below w.heap.size w m'.w :=
  ⟨G.os, G.tape, G.output, G.size, fun k hk => (G.le.F k hk).2⟩
theorem PS.calls_bool {P : Program} {f : FuncId} {args : List AV} {b : Bool} (h : PS P f args (bA b)) {w : World} {vals : Array Value} (hv : VTs (baseM w) args vals.toList []) :
    Calls P f vals w fun e w' => e = .returned (.bool b) ∧ Below w.heap.size w w' :=
  (h.run [] (baseM w) 0 [] vals rfl (baseM_good w) hv).mono fun e w' ⟨v, r, S', m', N', Z', br, h1, h2, h3, G, h4, h5, h6⟩ => by
    subst h1 h2 h5
    refine ⟨?_, G.bel⟩
    obtain ⟨⟨h7, _⟩, _⟩ := h4
    injection h7 with h7
    rw [h7]
theorem cells_vcs {α : Type} {m : Mem} {C : List Value → α → Prop} {sz : Nat} {f : α → AV} (hC : ∀ c x, C c x → VC m (f x) c []) : ∀ {l : List α} {xs : List Value}, Cells C sz xs l → VCs m (l.map f) xs []
  | [], _, h => ⟨h, rfl⟩
  | x :: l, _, ⟨c, ys, h1, h2, h3, h4⟩ => ⟨c, ys, [], [], h1, rfl, hC c x h3, cells_vcs hC h4⟩
theorem cell_block {w : World} {b o : Nat} {u : Value} (h : w.cell? ⟨b, o, none⟩ = some u) : ∃ arr t r, w.heap[b]? = some (.cells arr t r) ∧ arr[o]? = some u := by
  unfold World.cell? at h
  cases hb : w.heap[b]? with
  | none => simp only [hb] at h; cases h
  | some blk =>
    cases blk with
    | cells c t r => simp only [hb] at h; exact ⟨c, t, r, rfl, by simpa using h⟩
    | _ => simp only [hb] at h; cases h
theorem sl_vc {α : Type} {w : World} {C : World → Reg → List Value → α → Prop} {sz : Nat} {f : α → AV} {t : TypeId} {v : Value} {l : List α} (hsz : 0 < sz) (hC : ∀ c x, C w (Lt w) c x → VC (baseM w) (f x) c []) (hw : ∀ x, (f x).width = sz) (h : Sl w (Lt w) sz C v l) : VC (baseM w) (.lst false t sz (l.map f)) [v] [] := by
  obtain ⟨xs, ⟨h1, A, cap, rfl, hn, hr⟩, hc⟩ := h
  refine ⟨rfl, A, cap, by simp, by simpa using hn, fun e he => by obtain ⟨x, _, rfl⟩ := List.mem_map.1 he; exact hw x, fun h0 => ?_⟩
  have h0 : 0 < l.length := by simpa using h0
  obtain ⟨b, off, rfl, hb, hcell⟩ := hr h0
  have hx : 0 < xs.length := by rw [h1]; exact Nat.mul_pos h0 hsz
  obtain ⟨arr, t', r, h2, h3⟩ := cell_block (hcell 0 xs[0] (by simp))
  refine ⟨b, off, arr, t', r, rfl, hb, h2, ?_⟩
  have e : (arr.toList.drop off).take ((l.map f).length * sz) = xs := by
    apply List.ext_getElem?
    intro j
    rw [List.getElem?_take]
    split
    · rename_i hj
      have hj : j < xs.length := by rw [h1]; simpa using hj
      obtain ⟨arr2, t2, r2, h4, h5⟩ := cell_block (hcell j xs[j] (by simp))
      rw [h2] at h4
      injection h4 with h4
      injection h4 with h4
      subst h4
      rw [List.getElem?_drop, List.getElem?_eq_getElem hj]
      simpa using h5
    · rename_i hj
      rw [List.getElem?_eq_none]
      rw [h1]; simpa using hj
  rw [e]
  exact cells_vcs hC hc
theorem ints_vc {w : World} {v : Value} {l : List Int} (h : Ints w (Lt w) v l) : VC (baseM w) (intsA false l) [v] [] :=
  sl_vc (f := iA) (by decide) (fun c x hc => ⟨⟨hc, rfl⟩, rfl⟩) (fun _ => rfl) h
theorem vts_nil {m : Mem} : VTs m [] [] [] := ⟨rfl, rfl⟩
theorem vts_ints {w : World} {v : Value} {z : List Int} {l : List AV} {us : List Value} (h : Ints w (Lt w) v z) (k : VTs (baseM w) l us []) : VTs (baseM w) (intsA false z :: l) (v :: us) [] := (VTs_cons rfl).2 ⟨_, _, [], [], rfl, rfl, ints_vc h, k⟩
end Go.Proofs.Ytbfcbfgpbbkecaa

namespace Go.Proofs.Ytbfcbfgpbbkecaa
set_option linter.unusedVariables false
open Go.RowKit
set_option maxRecDepth 8000 in
set_option maxHeartbeats 2000000 in
theorem saveBack_ps (l : List Int) (hl : l.length * 8 ≤ 140737488351232) : PS Try.prog 4 [intsA false l] (bA true) := by
  have h0 := world_ps l
  have hok := genWorld_ok l
  have hgl := genWorld_gl l
  obtain ⟨w, hw⟩ : ∃ w, genWorld l = w := ⟨_, rfl⟩
  rw [hw] at h0 hok hgl
  obtain ⟨b, hb, hb1, hb2⟩ := write_ok hok hgl
  have hr := read_write hb
  have h1 := writeW_ps w hok
  have hil : w.items.length ≤ 256 := Nat.le_trans hok.il (by omega)
  have h4 := size_ps w (by omega) (by omega) fun it hit => by
    have h1 := cok_len ((sok_of hok).it it hit).2.2.2
    have h2 := (checkErr_one hok.ks).1
    omega
  obtain ⟨s, hs⟩ : ∃ s, sealB b = s := ⟨_, rfl⟩
  have hsl : s.length = b.length + 8 := by rw [← hs, sealB_len]
  rw [hs] at hb hr
  rw [hb] at h1 h4
  dsimp only at h1 h4
  have h2 := read_ps s (by omega)
  rw [hr] at h2
  dsimp only at h2
  have h3 := sameT_ps w w hok.wl
  rw [decide_eq_true rfl] at h3
  have h5 := sEqual_ps s s (by omega)
  rw [decide_eq_true rfl] at h5
  have hsm : (s.map yA).length = s.length := List.length_map _
  refine Spec.of (nt := 67) (res := [.tmp 2]) Try.func4 rfl (by kernel_rfl) rfl rfl rfl fun Sf => ?_
  (repeat refine WF ?_); refine AWP.region ?_; (repeat (first | refine WO ?_ | refine All.i fun X => ?_ | refine AllY.i fun Y => ?_)); refine AOps.nil ?_; (repeat refine WN ?_)
  (repeat first | refine AOps.nil ?_ | refine WF ?_)
  (repeat refine WF ?_); refine AWP.region ?_; (repeat (first | (refine AOps.gN ?_; first | (refine AOps.g_callf ?_; first | refine AOps.c0 (h := (saved_ps ..)) (k := ?_))) | refine WO ?_ | refine All.i fun X => ?_ | refine AllY.i fun Y => ?_)); refine AOps.nil ?_; (repeat refine WN ?_)
  (repeat first | refine AOps.nil ?_ | refine WF ?_)
  refine AWP.cond_f rfl rfl ?_
  (repeat first | refine AOps.nil ?_ | refine WF ?_)
  (repeat refine WF ?_); refine AWP.region ?_; (repeat (first | (refine AOps.gN ?_; first | (refine AOps.g_callf ?_; first | refine AOps.c1 (h := (h0 ..)) (k := ?_))) | refine WO ?_ | refine All.i fun V => ?_ | refine AllY.i fun Y => ?_)); refine AOps.nil ?_; (repeat refine WN ?_)
  (repeat first | refine AOps.nil ?_ | refine WF ?_)
  (repeat refine WF ?_); refine AWP.region ?_; (repeat (first | (refine AOps.gN ?_; first | (refine AOps.g_callf ?_; first | refine AOps.c1 (h := (h1 ..)) (k := ?_))) | refine WO ?_ | refine All.i fun X => ?_ | refine AllY.i fun Y => ?_)); refine AOps.nil ?_; (repeat refine WN ?_)
  (repeat first | refine AOps.nil ?_ | refine WF ?_)
  (repeat refine WF ?_); refine AWP.region ?_; (repeat (first | (refine AOps.gN ?_; first | (refine AOps.g_callf ?_; first | refine AOps.c1 (h := (h0 ..)) (k := ?_) | refine AOps.c1 (h := (h1 ..)) (k := ?_))) | refine WO ?_ | refine All.i fun X => ?_ | refine AllY.i fun Y => ?_)); refine AOps.nil ?_; (repeat refine WN ?_)
  (repeat first | refine AOps.nil ?_ | refine WF ?_)
  (repeat refine WF ?_); refine AWP.region ?_; (repeat (first | (refine AOps.gN ?_; first | (refine AOps.g_callf ?_; first | refine AOps.c1 (h := (h2 ..)) (k := ?_))) | refine WO ?_ | refine All.i fun V2 => ?_ | refine AllY.i fun Y => ?_)); refine AOps.nil ?_; (repeat refine WN ?_)
  (repeat first | refine AOps.nil ?_ | refine WF ?_)
  (repeat refine WF ?_); refine AWP.region ?_; (repeat (first | (refine AOps.gN ?_; first | (refine AOps.g_callf ?_; first | refine AOps.c1 (h := (h4 ..)) (k := ?_))) | refine WO ?_ | refine All.i fun X => ?_ | refine AllY.i fun Y => ?_)); refine AOps.nil ?_; (repeat refine WN ?_)
  (repeat first | refine AOps.nil ?_ | refine WF ?_)
  (repeat refine WF ?_); refine AWP.region ?_; (repeat (first | (refine AOps.gN ?_; first | (refine AOps.g_callf ?_; first | refine AOps.c2 (h := (h5 ..)) (k := ?_) | refine AOps.c2 (h := (h3 ..)) (k := ?_))) | refine WO ?_ | refine All.i fun X => ?_ | refine AllY.i fun Y => ?_)); refine AOps.nil ?_; (repeat refine WN ?_)
  (refine AWP.ret ?_; (repeat (first | refine inB_r ?_ | refine andThen_r ?_)); refine retQ_r ?_); refine Ends.ps ?_
  rw [hsm, decide_eq_true rfl]
theorem saveBack_calls (z0 : List Int) (A0 : Option Addr) (n0 cap0 : Nat) (w : World) (h0 : Ints w (Lt w) (.slice A0 n0 cap0) z0) (hlen0 : z0.length * 8 ≤ 140737488351232) :
    Calls Try.prog 4 #[.slice A0 n0 cap0] w fun e w' => e = .returned (.bool true) ∧ Below w.heap.size w w' :=
  (saveBack_ps z0 hlen0).calls_bool (vts_ints h0 (vts_nil))
end Go.Proofs.Ytbfcbfgpbbkecaa

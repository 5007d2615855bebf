/-
  What a call returns and owns is taken apart into objects; calls that take and give back several objects. No conditions.
-/
import Derived.Test.YtcfleoaldoebhaaAbs23
namespace Go.Proofs.Ytcfleoaldoebhaa
set_option linter.unusedVariables false
set_option linter.unusedSimpArgs false
variable {ro : Option Nat}
open Go.RowKit

/-! ### several places of a list -/
def setZ {β : Type} (Z : List β) : List (Nat × β) → List β
  | [] => Z
  | q :: r => setZ (Z.set q.1 q.2) r
theorem setZ_len {β : Type} (wz : List (Nat × β)) : ∀ Z : List β, (setZ Z wz).length = Z.length := by
  induction wz with
  | nil => intro Z; rfl
  | cons q r ih => intro Z; simp [setZ, ih]
theorem setZ_ne {β : Type} (wz : List (Nat × β)) {p : Nat} (h : p ∉ wz.map (·.1)) : ∀ Z : List β, (setZ Z wz)[p]? = Z[p]? := by
  induction wz with
  | nil => intro Z; rfl
  | cons q r ih =>
    intro Z
    simp only [List.map_cons, List.mem_cons, not_or] at h
    rw [setZ, ih h.2, List.getElem?_set_ne (fun e => h.1 e.symm)]
theorem setZ_at {β : Type} (wz : List (Nat × β)) (hnd : (wz.map (·.1)).Nodup) : ∀ Z : List β, (∀ q ∈ wz, q.1 < Z.length) → ∀ q ∈ wz, (setZ Z wz)[q.1]? = some q.2 := by
  induction wz with
  | nil => intro Z _ q hq; cases hq
  | cons a r ih =>
    intro Z hlt q hq
    rw [List.map_cons, List.nodup_cons] at hnd
    rcases List.mem_cons.1 hq with rfl | hq
    · rw [setZ, setZ_ne r hnd.1, List.getElem?_set_self (hlt _ (by simp))]
    · exact ih hnd.2 _ (fun q hq => by rw [List.length_set]; exact hlt q (by simp [hq])) q hq
theorem setZ_map {β α : Type} (f : β → α) (wz : List (Nat × β)) : ∀ Z : List β, (setZ Z wz).map f = setZ (Z.map f) (wz.map fun q => (q.1, f q.2)) := by
  induction wz with
  | nil => intro Z; rfl
  | cons q r ih => intro Z; simp [setZ, ih, List.map_set]
theorem setAll_setZ (wS : List (Nat × Slot)) : ∀ S, setAll S wS = setZ S wS := by
  induction wS with
  | nil => intro S; rfl
  | cons q r ih => intro S; exact ih _
theorem perm_of_mem {l k : List Nat} (hl : l.Nodup) (hk : k.Nodup) (h : ∀ x, x ∈ l ↔ x ∈ k) : l.Perm k := by
  rw [List.perm_iff_count]
  intro a
  rw [hl.count, hk.count]
  simp only [h a]
theorem map_range_get {β : Type} (Z : List β) : (List.range Z.length).map (fun i => Z[i]?) = Z.map some := by
  apply List.ext_getElem (by simp)
  intro i h1 h2
  have : i < Z.length := by simpa using h1
  simp [this]
/-- The places ps of a list, and the rest. -/
theorem perm_gets {β : Type} (Z : List β) (ps : List Nat) (hnd : ps.Nodup) (hlt : ∀ p ∈ ps, p < Z.length) : ∃ R, ∀ wz : List (Nat × β), wz.map (·.1) = ps → (setZ Z wz).Perm (wz.map (·.2) ++ R) := by
  let Q := (List.range Z.length).filter fun i => !decide (i ∈ ps)
  refine ⟨Q.filterMap fun i => Z[i]?, fun wz hw => ?_⟩
  have hwn : (wz.map (·.1)).Nodup := by rw [hw]; exact hnd
  have hwl : ∀ q ∈ wz, q.1 < Z.length := fun q hq => hlt _ (by rw [← hw]; exact List.mem_map_of_mem hq)
  have h1 : (List.range Z.length).Perm (ps ++ Q) := by
    refine (List.filter_append_perm (fun i => decide (i ∈ ps)) (List.range Z.length)).symm.trans ?_
    refine List.Perm.append_right _ (perm_of_mem (List.nodup_range.filter _) hnd fun x => ?_)
    simp only [List.mem_filter, List.mem_range, decide_eq_true_eq]
    exact ⟨fun h => h.2, fun h => ⟨hlt x h, h⟩⟩
  have h2 : ((setZ Z wz).map some).Perm ((ps ++ Q).map fun i => (setZ Z wz)[i]?) := by
    rw [← map_range_get, setZ_len]
    exact h1.map _
  have h3 : ps.map (fun i => (setZ Z wz)[i]?) = (wz.map (·.2)).map some := by
    rw [← hw, List.map_map, List.map_map]
    exact List.map_congr_left fun q hq => setZ_at wz hwn Z hwl q hq
  have h4 : Q.map (fun i => (setZ Z wz)[i]?) = (Q.filterMap fun i => Z[i]?).map some := by
    have : ∀ L : List Nat, (∀ i ∈ L, i ∉ ps ∧ i < Z.length) → L.map (fun i => (setZ Z wz)[i]?) = (L.filterMap fun i => Z[i]?).map some := by
      intro L
      induction L with
      | nil => intro _; rfl
      | cons i L ih =>
        intro h
        have hi := h i (by simp)
        rw [List.map_cons, ih fun j hj => h j (by simp [hj]), setZ_ne wz (by rw [hw]; exact hi.1), List.getElem?_eq_getElem hi.2, List.filterMap_cons, List.getElem?_eq_getElem hi.2]
        rfl
    refine this Q fun i hi => ?_
    have := List.mem_filter.1 hi
    simpa using And.comm.1 this
  rw [List.map_append, h3, h4, ← List.map_append] at h2
  have h5 := h2.filterMap id
  simpa [List.filterMap_map] using h5

/-! ### what a value owns becomes objects -/
inductive TW : AV → AV → List Slot → Prop
  | frz {a : AV} : TW a a.frz []
  | lst {t : TypeId} {sz : Nat} {l : List AV} {Y n : Nat} (h : n = l.length) : TW (.lst true t sz l) (.sl Y 0 n) [(Y, .row t sz l)]
  | bx {t : TypeId} {a : AV} {Y n : Nat} (h : n = a.width) : TW (.bx t a) (.ptr Y 0 0) [(Y, .row t n [a])]
inductive TWs : List AV → List AV → List Slot → Prop
  | nil : TWs [] [] []
  | cons {a b : AV} {as bs : List AV} {s r : List Slot} (h : TW a b s) (k : TWs as bs r) : TWs (a :: as) (b :: bs) (s ++ r)
inductive TV : AV → AV → List Slot → Prop
  | cell {a b : AV} {s : List Slot} (h : TW a b s) (ha : cellish a = true) (hb : cellish b = true) : TV a b s
  | agg {as bs : List AV} {s : List Slot} (h : TWs as bs s) : TV (.agg as) (.agg bs) s
inductive TVs : List AV → List AV → List Slot → Prop
  | nil : TVs [] [] []
  | cons {a b : AV} {as bs : List AV} {s r : List Slot} (h : TV a b s) (ha : ntup a = true) (hb : ntup b = true) (k : TVs as bs r) : TVs (a :: as) (b :: bs) (s ++ r)
inductive TR : AV → AV → List Slot → Prop
  | frz {a : AV} : TR a a.frz []
  | v {a b : AV} {s : List Slot} (h : TV a b s) : TR a b s
  | tup {as bs : List AV} {s : List Slot} (h : TVs as bs s) : TR (.tup as) (.tup bs) s
def gones (s : List Slot) : List Slot := s.map fun e => (e.1, .gone)
theorem Good.perm_ex {m0 m : Mem} {N : Nat} {Z : Zs} {ex ex' : List Nat} (G : Good m0 m N Z ex) (h : ex.Perm ex') : Good m0 m N Z ex' :=
  ⟨G.obj, ((h.append_left _).nodup_iff).1 G.own, fun b hb => G.blk b ((h.append_left _).mem_iff.2 hb), G.frz, G.keys, G.keyN, G.usedN, G.le, G.os, G.tape, G.output, G.size⟩
section
variable {m0 m : Mem} {N : Nat} {R : Zs} {ex : List Nat}
/-- Blocks on the side become a new object at a stamp that was kept. -/
theorem Good.own1 {Y : Nat} {bsY br : List Nat} {t : TypeId} {sz : Nat} {l : List AV} (G : Good m0 m N (((Y, .gone), bsY) :: R) (br ++ ex)) (L : Loc) (hL : L.sz = sz)
    (h : (L.isNil = true ∧ l = [] ∧ br = []) ∨ (L.isNil = false ∧ ∃ arr bs', br = L.blk :: bs' ∧ m.w.heap[L.blk]? = some (.cells arr t (0, 0)) ∧ arr.size = L.cap * sz ∧ l.length ≤ L.cap ∧ L.cap ≤ maxLen ∧ (∀ e ∈ l, e.width = sz) ∧ VCs m l (arr.toList.take (l.length * sz)) bs')) :
    Good m0 ⟨fun y => if y = Y then some L else m.μ y, fun y => m.U y ∨ y = Y, m.w, m.F⟩ N (((Y, .row t sz l), br) :: R) ex ∧ m.Le ⟨fun y => if y = Y then some L else m.μ y, fun y => m.U y ∨ y = Y, m.w, m.F⟩ := by
  have hg := G.obj _ (List.mem_cons_self ..)
  obtain ⟨rfl, hYU⟩ := hg
  have hle : m.Le ⟨fun y => if y = Y then some L else m.μ y, fun y => m.U y ∨ y = Y, m.w, m.F⟩ := by
    refine ⟨fun y h => .inl h, fun y L' hy hL => ?_, fun b hb => ⟨hb, rfl⟩⟩
    simp only at hL
    split at hL
    · rename_i e; subst e; exact absurd hy hYU
    · exact hL
  refine ⟨?_, hle⟩
  have hkN : Y < N := G.keyN Y (by simp [Zs.keys])
  have hown : (br ++ ex).Nodup := by
    have := G.own
    rw [List.nodup_append] at this
    exact this.2.1
  refine Good.swap (zs := [((Y, .gone), [])]) (zs' := [((Y, .row t sz l), br)]) (R := R) G hle (Nat.le_refl _) (fun y hy _ => ?_) (fun _ _ _ _ => rfl) ?_ (by simpa [Zs.own] using hown) (fun b hb => ?_) (fun b hb => ⟨G.frz b hb, .inl hb⟩) (by simp [Zs.keys]) (fun y hy => ?_) (fun y hy => ?_) rfl rfl rfl (Nat.le_refl _)
  · simp only [Zs.keys, List.map_cons, List.map_nil, List.mem_singleton] at hy
    simp only
    rw [if_neg hy]
  · intro z hz
    simp only [List.mem_singleton] at hz
    subst hz
    refine ⟨.inr rfl, L, by simp, hL, ?_⟩
    rcases h with h | ⟨h1, arr, bs', e1, e2, e3, e4, e5, e6, e7⟩
    · exact .inl h
    · exact .inr ⟨h1, arr, bs', e1, e2, e3, e4, e5, e6, VCs.mono hle l (fun _ _ => rfl) e7⟩
  · have hb' : b ∈ br ++ ex := by simpa [Zs.own] using hb
    have := G.blk b (List.mem_append_right _ hb')
    exact ⟨this.1, this.2, .inr (.inl hb')⟩
  · simp only [Zs.keys, List.map_cons, List.map_nil, List.mem_singleton] at hy
    subst hy
    exact ⟨hkN, .inl (by simp [Zs.keys])⟩
  · rcases hy with hy | rfl
    · exact ⟨G.usedN y hy, .inl hy⟩
    · exact ⟨hkN, .inr (.inl (by simp [Zs.keys]))⟩
theorem TW.sound {a b : AV} {s : List Slot} (h : TW a b s) : ∀ {m : Mem} {br ex : List Nat} {G : Zs} {c : List Value}, G.map (·.1) = gones s → Good m0 m N (G ++ R) (br ++ ex) → VC m a c br →
    ∃ m' Z', m'.w = m.w ∧ Z'.map (·.1) = s ∧ Good m0 m' N (Z' ++ R) ex ∧ m.Le m' ∧ VC m' b c [] := by
  intro m br ex G c hG g hv
  cases h with
  | frz =>
    have : G = [] := by simpa [gones] using hG
    subst this
    obtain ⟨G2, hle⟩ := g.freeze _ rfl
    exact ⟨{ m with F := fun b => m.F b ∨ b ∈ br }, [], rfl, rfl, G2, hle, VC.frz hle a (fun b hb => ⟨.inr hb, rfl⟩) hv⟩
  | @lst t sz l Y n hn =>
    cases G with
    | nil => simp [gones] at hG
    | cons z G =>
      simp only [gones, List.map_cons, List.map_nil, List.cons.injEq, List.map_eq_nil_iff] at hG
      obtain ⟨hz, rfl⟩ := hG
      obtain ⟨⟨y, o⟩, bsY⟩ := z
      simp only [Prod.mk.injEq] at hz
      obtain ⟨rfl, rfl⟩ := hz
      rcases hv with ⟨rfl, rfl, rfl⟩ | ⟨gb, cap, arr, bs', rfl, rfl, e1, e2, e3, e4, e5, e6⟩
      · obtain ⟨G', hle⟩ := Good.own1 (br := []) (t := t) (sz := sz) (l := []) g ⟨0, 0, sz, true⟩ rfl (.inl ⟨rfl, rfl, rfl⟩)
        refine ⟨(⟨fun x => if x = y then some ⟨0, 0, sz, true⟩ else m.μ x, fun x => m.U x ∨ x = y, m.w, m.F⟩ : Mem), [((y, .row t sz []), [])], rfl, rfl, G', hle, rfl, .inr rfl, none, 0, by rw [hn]; rfl, fun L hL => ?_⟩
        simp only [if_true, Option.some.injEq] at hL
        subst hL
        exact .inl ⟨rfl, by rw [hn]; rfl, rfl, hn⟩
      · obtain ⟨G', hle⟩ := Good.own1 (br := gb :: bs') (t := t) (sz := sz) (l := l) g ⟨gb, cap, sz, false⟩ rfl (.inr ⟨rfl, arr, bs', rfl, e1, e2, e3, e4, e5, e6⟩)
        refine ⟨(⟨fun x => if x = y then some ⟨gb, cap, sz, false⟩ else m.μ x, fun x => m.U x ∨ x = y, m.w, m.F⟩ : Mem), [((y, .row t sz l), gb :: bs')], rfl, rfl, G', hle, rfl, .inr rfl, _, cap, by rw [hn], fun L hL => ?_⟩
        simp only [if_true, Option.some.injEq] at hL
        subst hL
        exact .inr ⟨rfl, by simp only; omega, 0, by simp, fun _ => by simp⟩
  | @bx t a Y n hn =>
    cases G with
    | nil => simp [gones] at hG
    | cons z G =>
      simp only [gones, List.map_cons, List.map_nil, List.cons.injEq, List.map_eq_nil_iff] at hG
      obtain ⟨hz, rfl⟩ := hG
      obtain ⟨⟨y, o⟩, bsY⟩ := z
      simp only [Prod.mk.injEq] at hz
      obtain ⟨rfl, rfl⟩ := hz
      obtain ⟨gb, arr, bs', rfl, rfl, e1, ⟨cap, e2, e3, e4⟩, e5⟩ := hv
      subst hn
      obtain ⟨G', hle⟩ := Good.own1 (br := gb :: bs') (t := t) (sz := a.width) (l := [a]) g ⟨gb, cap, a.width, false⟩ rfl (.inr ⟨rfl, arr, bs', rfl, e1, e2, e3, e4, fun e he => by rw [List.mem_singleton.1 he], by simpa using VCs.one.2 e5⟩)
      refine ⟨(⟨fun x => if x = y then some ⟨gb, cap, a.width, false⟩ else m.μ x, fun x => m.U x ∨ x = y, m.w, m.F⟩ : Mem), [((y, .row t a.width [a]), gb :: bs')], rfl, rfl, G', hle, rfl, .inr rfl, _, rfl, fun L hL => ?_⟩
      simp only [if_true, Option.some.injEq] at hL
      subst hL
      simp
theorem TWs.sound {as bs : List AV} {s : List Slot} (h : TWs as bs s) : ∀ {R : Zs} {m : Mem} {br ex : List Nat} {G : Zs} {c : List Value}, G.map (·.1) = gones s → Good m0 m N (G ++ R) (br ++ ex) → VCs m as c br →
    ∃ m' Z', m'.w = m.w ∧ Z'.map (·.1) = s ∧ Good m0 m' N (Z' ++ R) ex ∧ m.Le m' ∧ VCs m' bs c [] := by
  induction h with
  | nil =>
    intro R m br ex G c hG g hv
    obtain ⟨rfl, rfl⟩ := hv
    have : G = [] := by simpa [gones] using hG
    subst this
    exact ⟨m, [], rfl, rfl, g, .refl _, rfl, rfl⟩
  | @cons a b as bs s r h k ih =>
    intro R m br ex G c hG g hv
    obtain ⟨c1, c2, b1, b2, rfl, rfl, h1, h2⟩ := hv
    rw [gones, List.map_append] at hG
    obtain ⟨G1, G2, rfl, hG1, hG2⟩ := slots_split hG
    obtain ⟨m1, Z1, hw1, hZ1, g1, hle1, v1⟩ := h.sound (R := G2 ++ R) (ex := b2 ++ ex) hG1 (by simpa using g) h1
    have g1' : Good m0 m1 N (G2 ++ (Z1 ++ R)) (b2 ++ ex) := g1.perm (by
      rw [← List.append_assoc, ← List.append_assoc]
      exact List.Perm.append_right _ List.perm_append_comm)
    obtain ⟨m2, Z2, hw2, hZ2, g2, hle2, v2⟩ := ih (R := Z1 ++ R) hG2 g1' (VCs.mono hle1 as (fun b _ => by rw [hw1]) h2)
    refine ⟨m2, Z1 ++ Z2, hw2.trans hw1, by simp [hZ1, hZ2], g2.perm (by
      rw [← List.append_assoc]
      exact List.Perm.append_right _ List.perm_append_comm), hle1.trans hle2, c1, c2, [], [], rfl, rfl, VC.mono hle2 b (fun _ hb => by cases hb) v1, v2⟩
theorem TV.sound {a b : AV} {s : List Slot} (h : TV a b s) : ∀ {R : Zs} {m : Mem} {br ex : List Nat} {G : Zs} {u : Value}, G.map (·.1) = gones s → Good m0 m N (G ++ R) (br ++ ex) → VV m a u br →
    ∃ m' Z', m'.w = m.w ∧ Z'.map (·.1) = s ∧ Good m0 m' N (Z' ++ R) ex ∧ m.Le m' ∧ VV m' b u [] := by
  intro R m br ex G u hG g hv
  cases h with
  | cell h ha hb =>
    obtain ⟨m', Z', h1, h2, h3, h4, h5⟩ := h.sound hG g ((VV.of_vc ha).1 hv)
    exact ⟨m', Z', h1, h2, h3, h4, (VV.of_vc hb).2 h5⟩
  | agg h =>
    obtain ⟨cells, rfl, hv⟩ := hv
    obtain ⟨m', Z', h1, h2, h3, h4, h5⟩ := h.sound hG g hv
    exact ⟨m', Z', h1, h2, h3, h4, cells, rfl, h5⟩
theorem TVs.sound {as bs : List AV} {s : List Slot} (h : TVs as bs s) : ∀ {R : Zs} {m : Mem} {br ex : List Nat} {G : Zs} {us : List Value}, G.map (·.1) = gones s → Good m0 m N (G ++ R) (br ++ ex) → VTs m as us br →
    ∃ m' Z', m'.w = m.w ∧ Z'.map (·.1) = s ∧ Good m0 m' N (Z' ++ R) ex ∧ m.Le m' ∧ VTs m' bs us [] := by
  induction h with
  | nil =>
    intro R m br ex G c hG g hv
    obtain ⟨rfl, rfl⟩ := hv
    have : G = [] := by simpa [gones] using hG
    subst this
    exact ⟨m, [], rfl, rfl, g, .refl _, rfl, rfl⟩
  | @cons a b as bs s r h ha hb k ih =>
    intro R m br ex G c hG g hv
    obtain ⟨u, us, b1, b2, rfl, rfl, h1, h2⟩ := (VTs_cons ha).1 hv
    rw [gones, List.map_append] at hG
    obtain ⟨G1, G2, rfl, hG1, hG2⟩ := slots_split hG
    obtain ⟨m1, Z1, hw1, hZ1, g1, hle1, v1⟩ := h.sound (R := G2 ++ R) (ex := b2 ++ ex) hG1 (by simpa using g) h1
    have g1' : Good m0 m1 N (G2 ++ (Z1 ++ R)) (b2 ++ ex) := g1.perm (by
      rw [← List.append_assoc, ← List.append_assoc]
      exact List.Perm.append_right _ List.perm_append_comm)
    obtain ⟨m2, Z2, hw2, hZ2, g2, hle2, v2⟩ := ih (R := Z1 ++ R) hG2 g1' (VTs.mono hle1 as (fun b _ => by rw [hw1]) h2)
    refine ⟨m2, Z1 ++ Z2, hw2.trans hw1, by simp [hZ1, hZ2], g2.perm (by
      rw [← List.append_assoc]
      exact List.Perm.append_right _ List.perm_append_comm), hle1.trans hle2, (VTs_cons hb).2 ⟨u, us, [], [], rfl, rfl, VV.mono hle2 (fun _ hb => by cases hb) v1, v2⟩⟩
theorem TR.sound {a b : AV} {s : List Slot} (h : TR a b s) {R : Zs} {m : Mem} {br ex : List Nat} {G : Zs} {u : Value} (hG : G.map (·.1) = gones s) (g : Good m0 m N (G ++ R) (br ++ ex)) (hv : VV m a u br) :
    ∃ m' Z', m'.w = m.w ∧ Z'.map (·.1) = s ∧ Good m0 m' N (Z' ++ R) ex ∧ m.Le m' ∧ VV m' b u [] := by
  cases h with
  | frz =>
    have : G = [] := by simpa [gones] using hG
    subst this
    obtain ⟨G2, hle⟩ := g.freeze _ rfl
    exact ⟨{ m with F := fun b => m.F b ∨ b ∈ br }, [], rfl, rfl, G2, hle, VV.frz hle (fun b hb => ⟨.inr hb, rfl⟩) hv⟩
  | v h => exact h.sound hG g hv
  | tup h =>
    obtain ⟨us, rfl, hv⟩ := hv
    obtain ⟨m', Z', h1, h2, h3, h4, h5⟩ := h.sound hG g hv
    exact ⟨m', Z', h1, h2, h3, h4, us, rfl, h5⟩
end

theorem setZ_same {β : Type} (wz : List (Nat × β)) : ∀ Z : List β, (∀ q ∈ wz, Z[q.1]? = some q.2) → setZ Z wz = Z := by
  induction wz with
  | nil => intro Z _; rfl
  | cons q r ih =>
    intro Z h
    have h1 := h q (by simp)
    obtain ⟨h2, h3⟩ := List.getElem?_eq_some_iff.1 h1
    have : Z.set q.1 q.2 = Z := by rw [← h3]; exact List.set_getElem_self h2
    rw [setZ, this]
    exact ih Z fun q hq => h q (by simp [hq])
section
variable {P : Program} {ty : TypeId} {pos : String} {after : Array Edge} {g : Option (Nat × Bool)} {dst : Option Tmp} {xs : List (Operand × AV)} {f : FuncId} {ats : Array TypeId} {r v : AV} {Sin Sout news : List Slot} {rS wS : List (Nat × Slot)}
/-- What a call does to a state: for a callee by name or a closure. -/
theorem callG_run {nt : Nat} {m0 : Mem} {T : List (Nat × AV)} {S : List Slot} {a : Act} {args : List AV} {vals : Array Value} (h : Spec P f args Sin fun r' S' => r' = r ∧ S' = Sout) (hT : TR r v news) (hr : rS.map (·.2) = Sin ++ gones news) (hw : wS.map (·.2) = Sout ++ news) (hp : wS.map (·.1) = rS.map (·.1)) (hnd : (rS.map (·.1)).Nodup)
    (hS : ∀ q ∈ rS, S[q.1]? = some q.2) (hd : ∀ d, dst = some d → d < nt) {m : Mem} {N : Nat} {Z : Zs} (h2 : Z.map (·.1) = S) (h3 : Good m0 m N Z []) (h4 : TRel m0 m nt T a) (hv : VTs m args vals.toList []) :
    Calls P f vals m.w fun e w' => ∃ u, e = .returned u ∧ Rel nt m0 ⟨putD T dst v, setAll S wS⟩ (a.put dst u) w' := by
  obtain ⟨RS, hR⟩ := perm_gets S (rS.map (·.1)) hnd (fun p hp => by
    obtain ⟨q, hq, rfl⟩ := List.mem_map.1 hp
    exact (List.getElem?_eq_some_iff.1 (hS q hq)).1)
  have p1 := hR rS rfl
  rw [setZ_same rS S hS, hr, List.append_assoc] at p1
  have p2 := hR wS hp
  rw [hw, List.append_assoc, ← setAll_setZ] at p2
  obtain ⟨Z1, hz1, hz2⟩ := perm_lift (fun z : Slot × List Nat => z.1) p1 h2
  refine (h.run _ m N Z1 vals hz2 (h3.perm hz1).self hv).mono ?_
  rintro e w' ⟨u, r', S', m', N', Z', br, rfl, rfl, hm, G', hu, rfl, rfl⟩
  obtain ⟨Zo, Zr, rfl, ho, hzr⟩ := slots_split hm
  obtain ⟨Zg, Zf, rfl, hg, hf⟩ := slots_split hzr
  have G1 := h3.perm hz1 |>.after G'
  have G2 : Good m0 m' N' (Zg ++ (Zo ++ Zf)) (br ++ []) := by
    have := G1.perm (Z' := Zg ++ (Zo ++ Zf)) (by
      rw [← List.append_assoc, ← List.append_assoc]
      exact List.Perm.append_right _ List.perm_append_comm)
    simpa using this
  obtain ⟨m2, Zn, hw2, hn, G3, hle, hv2⟩ := hT.sound hg G2 hu
  have G4 := G3.perm (Z' := Zo ++ (Zn ++ Zf)) (by
    rw [← List.append_assoc, ← List.append_assoc]
    exact List.Perm.append_right _ List.perm_append_comm)
  obtain ⟨Z3, hz3, hz4⟩ := perm_lift (fun z : Slot × List Nat => z.1) (S' := setAll S wS) p2.symm (Z := Zo ++ (Zn ++ Zf)) (by simp [ho, hn, hf])
  exact ⟨u, rfl, m2, N', Z3, hw2, hz4, G4.perm hz3, ((h4.mono G'.le).mono hle).put hd hv2⟩
theorem OpT.callG (h : Spec P f (xs.map (·.2)) Sin fun r' S' => r' = r ∧ S' = Sout) (ht : noTup xs = true) (hT : TR r v news) (hr : rS.map (·.2) = Sin ++ gones news) (hw : wS.map (·.2) = Sout ++ news) (hp : wS.map (·.1) = rS.map (·.1)) (hnd : (rS.map (·.1)).Nodup) :
    OpT P ⟨dst, .call ⟨.value (.func f), (xs.map (·.1)).toArray, ats⟩, ty, pos, after, g⟩ xs rS v wS := by
  intro nt m0 T S a w hx hS hd hrel
  obtain ⟨m, N, Z, rfl, h2, h3, h4⟩ := hrel
  refine wp_call (fun _ => rfl) h.fn ?_
  exact callG_run h hT hr hw hp hnd hS hd h2 h3 h4 (by have := vts_of (noTup_spec ht) fun q hq => h4.ev (hx q hq); simpa [Function.comp_def] using this)
theorem OpT.callCG {x : Operand} {cap : List AV} (h : Spec P f (xs.map (·.2) ++ cap) Sin fun r' S' => r' = r ∧ S' = Sout) (hs : st1s cap = true) (ht : noTup xs = true) (hT : TR r v news) (hr : rS.map (·.2) = Sin ++ gones news) (hw : wS.map (·.2) = Sout ++ news) (hp : wS.map (·.1) = rS.map (·.1)) (hnd : (rS.map (·.1)).Nodup) :
    OpT P ⟨dst, .call ⟨.value x, (xs.map (·.1)).toArray, ats⟩, ty, pos, after, g⟩ ((x, .fn f cap) :: xs) rS v wS := by
  intro nt m0 T S a w hx hS hd hrel
  obtain ⟨m, N, Z, rfl, h2, h3, h4⟩ := hrel
  obtain ⟨vs, e1, h5⟩ := h4.ev (hx (x, .fn f cap) (by simp))
  injection e1 with e1
  refine wp_callV e1 h.fn ?_
  exact callG_run h hT hr hw hp hnd hS hd h2 h3 h4 (by
    have := vts_app (vts_of (noTup_spec ht) fun q hq => h4.ev (hx q (by simp [hq]))) (vts_cap hs h5)
    simpa [Function.comp_def] using this)
inductive Pos (S : List Slot) : List Slot → List Slot → List (Nat × Slot) → List (Nat × Slot) → Prop
  | nil : Pos S [] [] [] []
  | cons {a b : Slot} {as bs : List Slot} {rs ws : List (Nat × Slot)} {p : Nat} (h : At S p a) (k : Pos S as bs rs ws) : Pos S (a :: as) (b :: bs) ((p, a) :: rs) ((p, b) :: ws)
theorem Pos.all {S as bs : List Slot} {rs ws : List (Nat × Slot)} (h : Pos S as bs rs ws) : rs.map (·.2) = as ∧ ws.map (·.2) = bs ∧ ws.map (·.1) = rs.map (·.1) ∧ Gets S rs := by
  induction h with
  | nil => exact ⟨rfl, rfl, rfl, .nil⟩
  | cons h k ih => exact ⟨by simp [ih.1], by simp [ih.2.1], by simp [ih.2.2.1], .cons h ih.2.2.2⟩
theorem TR.fz {r v : AV} [h : Frz r v] : TR r v [] := h.h ▸ .frz
theorem TR.ls {t : TypeId} {sz : Nat} {l : List AV} {Y : Nat} : TR (.lst true t sz l) (.sl Y 0 l.length) [(Y, .row t sz l)] := .v (.cell (.lst rfl) rfl rfl)
theorem TR.bp {t : TypeId} {a : AV} {Y n : Nat} (h : n = a.width := by rfl) : TR (.bx t a) (.ptr Y 0 0) [(Y, .row t n [a])] := .v (.cell (.bx h) rfl rfl)
end
/-! ### one cell of a row's values -/
mutual
/-- The cell a of a value is b in the other one. -/
inductive Ho (a b : AV) : AV → AV → Prop
  | here : Ho a b a b
  | agg {as bs : List AV} (h : Hos a b as bs) : Ho a b (.agg as) (.agg bs)
inductive Hos (a b : AV) : List AV → List AV → Prop
  | head {x y : AV} {as : List AV} (h : Ho a b x y) : Hos a b (x :: as) (y :: as)
  | tail {x : AV} {as bs : List AV} (h : Hos a b as bs) : Hos a b (x :: as) (x :: bs)
end
mutual
theorem Ho.vc {a b : AV} {m : Mem} : {x y : AV} → Ho a b x y → {c : List Value} → {bs : List Nat} → VC m x c bs →
    ∃ c0 B bs', bs.Perm (B ++ bs') ∧ VC m a c0 B ∧ ∀ m' B', m.Le m' → m'.w = m.w → VC m' b c0 B' → ∃ bs2, bs2.Perm (B' ++ bs') ∧ VC m' y c bs2
  | _, _, .here, c, bs, h => ⟨c, bs, [], by simp, h, fun m' B' _ _ k => ⟨B', by simp, k⟩⟩
  | _, _, .agg h, c, bs, k => Hos.vcs h k
theorem Hos.vcs {a b : AV} {m : Mem} : {x y : List AV} → Hos a b x y → {c : List Value} → {bs : List Nat} → VCs m x c bs →
    ∃ c0 B bs', bs.Perm (B ++ bs') ∧ VC m a c0 B ∧ ∀ m' B', m.Le m' → m'.w = m.w → VC m' b c0 B' → ∃ bs2, bs2.Perm (B' ++ bs') ∧ VCs m' y c bs2
  | _, _, .head (as := as) h, _, _, ⟨c1, c2, b1, b2, e1, e2, h1, h2⟩ => by
    obtain ⟨c0, B, bs', hp, hv, k⟩ := Ho.vc h h1
    refine ⟨c0, B, bs' ++ b2, by rw [e2, ← List.append_assoc]; exact hp.append_right _, hv, fun m' B' hle hw hb => ?_⟩
    obtain ⟨bs2, hp2, hv2⟩ := k m' B' hle hw hb
    exact ⟨bs2 ++ b2, by rw [← List.append_assoc]; exact hp2.append_right _, c1, c2, bs2, b2, e1, rfl, hv2, VCs.mono hle as (fun _ _ => by rw [hw]) h2⟩
  | _, _, .tail (x := x) h, _, _, ⟨c1, c2, b1, b2, e1, e2, h1, h2⟩ => by
    obtain ⟨c0, B, bs', hp, hv, k⟩ := Hos.vcs h h2
    refine ⟨c0, B, b1 ++ bs', ?_, hv, fun m' B' hle hw hb => ?_⟩
    · rw [e2]
      refine (hp.append_left _).trans ?_
      rw [← List.append_assoc, ← List.append_assoc]
      exact List.perm_append_comm.append_right _
    · obtain ⟨bs2, hp2, hv2⟩ := k m' B' hle hw hb
      refine ⟨b1 ++ bs2, ?_, c1, c2, b1, bs2, e1, rfl, VC.mono hle x (fun _ _ => by rw [hw]) h1, hv2⟩
      refine (hp2.append_left _).trans ?_
      rw [← List.append_assoc, ← List.append_assoc]
      exact List.perm_append_comm.append_right _
end
mutual
theorem Ho.width {a b : AV} (h0 : b.width = a.width) : {x y : AV} → Ho a b x y → y.width = x.width
  | _, _, .here => h0
  | _, _, .agg h => Hos.widths h0 h
theorem Hos.widths {a b : AV} (h0 : b.width = a.width) : {x y : List AV} → Hos a b x y → AV.widths y = AV.widths x
  | _, _, .head h => by simp only [AV.widths]; rw [Ho.width h0 h]
  | _, _, .tail h => by simp only [AV.widths]; rw [Hos.widths h0 h]
end
theorem Hos.len {a b : AV} {x y : List AV} (h : Hos a b x y) : y.length = x.length := by
  induction x generalizing y with
  | nil => cases h
  | cons e x ih => cases h with
    | head h => rfl
    | tail h => simp [ih h]
theorem Hos.wd {a b : AV} (h0 : b.width = a.width) {x y : List AV} {n : Nat} (h : Hos a b x y) (hw : ∀ e ∈ x, e.width = n) : ∀ e ∈ y, e.width = n := by
  induction x generalizing y with
  | nil => cases h
  | cons e x ih => cases h with
    | head h =>
      intro z hz
      rcases List.mem_cons.1 hz with rfl | hz
      · rw [h.width h0]; exact hw e (by simp)
      · exact hw z (by simp [hz])
    | tail h =>
      intro z hz
      rcases List.mem_cons.1 hz with rfl | hz
      · exact hw _ (by simp)
      · exact ih h (fun e he => hw e (by simp [he])) z hz
/-- A row of which one cell is turned. -/
theorem Hos.orel {a b : AV} {m : Mem} {Y : Nat} {t2 : TypeId} {sz2 : Nat} {l2 l2' : List AV} {bs : List Nat} (hI : Hos a b l2 l2') (h0 : b.width = a.width) (h : ORel m Y (.row t2 sz2 l2) bs) :
    ∃ c0 B bs', bs.Perm (B ++ bs') ∧ VC m a c0 B ∧ ∀ m' B', m.Le m' → m'.w = m.w → (∀ L, m.μ Y = some L → m'.μ Y = some L) → VC m' b c0 B' → ∃ bs2, bs2.Perm (B' ++ bs') ∧ ORel m' Y (.row t2 sz2 l2') bs2 := by
  obtain ⟨hU, L, h1, h2, h3⟩ := h
  rcases h3 with ⟨h4, rfl, h5⟩ | ⟨h4, arr, bs', h5, h6, h7, h8, h9, h10, h11⟩
  · cases hI
  · obtain ⟨c0, B, bs1, hp, hv, k⟩ := hI.vcs h11
    refine ⟨c0, B, L.blk :: bs1, ?_, hv, fun m' B' hle hw hμ hb => ?_⟩
    · rw [h5]; exact (hp.cons _).trans List.perm_middle.symm
    · obtain ⟨bs2, hp2, hv2⟩ := k m' B' hle hw hb
      refine ⟨L.blk :: bs2, (hp2.cons _).trans List.perm_middle.symm, hle.U _ hU, L, hμ L h1, h2, .inr ⟨h4, arr, bs2, rfl, by rw [hw]; exact h6, h7, by rw [hI.len]; exact h8, h9, hI.wd h0 h10, ?_⟩⟩
      rw [hI.len]; exact hv2
section
variable {m0 m : Mem} {N : Nat} {R : Zs} {ex : List Nat}
theorem Good.bag {z z' : Slot × List Nat} {B : List Nat} (G : Good m0 m N (z :: R) ex) (hk : z'.1.1 = z.1.1) (ho : ORel m z'.1.1 z'.1.2 z'.2) (hp : z.2.Perm (B ++ z'.2)) : Good m0 m N (z' :: R) (B ++ ex) := by
  have p1 : (Zs.own (z :: R) ++ ex).Perm (Zs.own (z' :: R) ++ (B ++ ex)) := by
    simp only [own_cons]
    refine ((hp.append_right _).append_right _).trans ?_
    rw [List.append_assoc, List.append_assoc, List.append_assoc]
    refine List.perm_append_comm.trans ?_
    simp only [List.append_assoc]
    refine List.Perm.append_left _ (List.Perm.append_left _ ?_)
    exact List.perm_append_comm
  refine ⟨?_, p1.nodup_iff.1 G.own, fun b hb => G.blk b (p1.mem_iff.2 hb), G.frz, ?_, ?_, G.usedN, G.le, G.os, G.tape, G.output, G.size⟩
  · intro q hq
    rcases List.mem_cons.1 hq with rfl | hq
    · exact ho
    · exact G.obj q (List.mem_cons_of_mem _ hq)
  · have := G.keys
    simpa [Zs.keys, hk] using this
  · intro x hx
    refine G.keyN x ?_
    simpa [Zs.keys, hk] using hx
/-- An own list as a new row. -/
theorem own_row {Y : Nat} {t : TypeId} {sz : Nat} {l : List AV} {c : List Value} {B : List Nat} (hY : ¬ m.U Y) (h : VC m (.lst true t sz l) c B) :
    ∃ m', (∀ x, x ≠ Y → m'.μ x = m.μ x) ∧ (∀ x, m'.U x ↔ (m.U x ∨ x = Y)) ∧ m'.w = m.w ∧ m'.F = m.F ∧ m.Le m' ∧ VC m' (.sl Y 0 l.length) c [] ∧ ORel m' Y (.row t sz l) B := by
  have key : ∀ L : Loc, m.Le ⟨fun x => if x = Y then some L else m.μ x, fun x => m.U x ∨ x = Y, m.w, m.F⟩ := fun L => by
    refine ⟨fun y h => .inl h, fun y L' hy hL => ?_, fun b hb => ⟨hb, rfl⟩⟩
    simp only at hL
    split at hL
    · rename_i e; subst e; exact absurd hy hY
    · exact hL
  rcases h with ⟨rfl, rfl, rfl⟩ | ⟨gb, cap, arr, bs', rfl, rfl, e1, e2, e3, e4, e5, e6⟩
  · refine ⟨⟨fun x => if x = Y then some ⟨0, 0, sz, true⟩ else m.μ x, fun x => m.U x ∨ x = Y, m.w, m.F⟩, fun x hx => by simp [hx], fun x => .rfl, rfl, rfl, key _, ⟨rfl, .inr rfl, none, 0, rfl, fun L hL => ?_⟩, .inr rfl, ⟨0, 0, sz, true⟩, by simp, rfl, .inl ⟨rfl, rfl, rfl⟩⟩
    simp only [if_true, Option.some.injEq] at hL
    subst hL
    exact .inl ⟨rfl, rfl, rfl, rfl⟩
  · refine ⟨⟨fun x => if x = Y then some ⟨gb, cap, sz, false⟩ else m.μ x, fun x => m.U x ∨ x = Y, m.w, m.F⟩, fun x hx => by simp [hx], fun x => .rfl, rfl, rfl, key _, ⟨rfl, .inr rfl, _, cap, rfl, fun L hL => ?_⟩, .inr rfl, ⟨gb, cap, sz, false⟩, by simp, rfl, .inr ⟨rfl, arr, bs', rfl, e1, e2, e3, e4, e5, VCs.mono (key _) l (fun _ _ => rfl) e6⟩⟩
    simp only [if_true, Option.some.injEq] at hL
    subst hL
    exact .inr ⟨rfl, by simp only; omega, 0, by simp, fun _ => by simp⟩
theorem nodup2 {A B ex : List Nat} {R : Zs} {z : Slot × List Nat} (G : Good m0 m N (z :: R) ex) (hp : z.2.Perm A) : (A ++ ex).Nodup ∧ ∀ b ∈ A ++ ex, b < m.w.heap.size ∧ ¬ m.F b ∧ (b ∈ z.2 ∨ b ∈ ex) := by
  have h := G.own
  simp only [own_cons] at h
  have h1 : (z.2 ++ ex).Nodup := by
    have : (z.2 ++ Zs.own R ++ ex).Perm ((z.2 ++ ex) ++ Zs.own R) := by
      rw [List.append_assoc, List.append_assoc]
      exact List.Perm.append_left _ List.perm_append_comm
    exact (List.nodup_append.1 (this.nodup_iff.1 h)).1
  refine ⟨(hp.append_right ex).nodup_iff.1 h1, fun b hb => ?_⟩
  have hb' := (hp.append_right ex).mem_iff.2 hb
  have := G.blk b (by simp only [own_cons]; rcases List.mem_append.1 hb' with h | h <;> simp [h])
  exact ⟨this.1, this.2, List.mem_append.1 hb'⟩
theorem nodupL {A ex : List Nat} {R zs : Zs} (G : Good m0 m N (zs ++ R) ex) (hp : zs.own.Perm A) : (A ++ ex).Nodup ∧ ∀ b ∈ A ++ ex, b < m.w.heap.size ∧ ¬ m.F b ∧ (b ∈ zs.own ∨ b ∈ ex) := by
  have h := G.own
  rw [own_append] at h
  have h1 : (zs.own ++ ex).Nodup := by
    have : (zs.own ++ Zs.own R ++ ex).Perm ((zs.own ++ ex) ++ Zs.own R) := by
      rw [List.append_assoc, List.append_assoc]
      exact List.Perm.append_left _ List.perm_append_comm
    exact (List.nodup_append.1 (this.nodup_iff.1 h)).1
  refine ⟨(hp.append_right ex).nodup_iff.1 h1, fun b hb => ?_⟩
  have hb' := (hp.append_right ex).mem_iff.2 hb
  have := G.blk b (by rw [own_append]; rcases List.mem_append.1 hb' with h | h <;> simp [h])
  exact ⟨this.1, this.2, List.mem_append.1 hb'⟩
/-- An own list inside a row's values becomes a row. -/
theorem Good.thawIn {Y : Nat} {t t2 : TypeId} {sz sz2 : Nat} {l l2 l2' : List AV} {bs : List Nat} (G : Good m0 m N (((Y, .row t2 sz2 l2), bs) :: R) ex) (hI : Hos (.lst true t sz l) (.sl N 0 l.length) l2 l2') :
    ∃ m' b1 b2, m'.w = m.w ∧ m.Le m' ∧ Good m0 m' (N + 1) (((N, .row t sz l), b1) :: ((Y, .row t2 sz2 l2'), b2) :: R) ex := by
  have hY : ORel m Y (.row t2 sz2 l2) bs := G.obj _ (List.mem_cons_self ..)
  have hYN : Y < N := G.keyN Y (by simp [Zs.keys])
  have hNU : ¬ m.U N := fun h => Nat.lt_irrefl _ (G.usedN _ h)
  obtain ⟨c0, B, bs', hp, hv, k⟩ := hI.orel rfl hY
  obtain ⟨m', hμ, hU, hw, hF, hle, hv', ho⟩ := own_row hNU hv
  obtain ⟨bs2, hp2, hoY⟩ := k m' [] hle hw (fun L hL => by rw [hμ Y (by omega)]; exact hL) hv'
  have hp3 : bs.Perm (B ++ bs2) := hp.trans (by simpa using hp2.symm.append_left B)
  obtain ⟨hn, hb⟩ := nodup2 (B := []) G hp3
  refine ⟨m', B, bs2, hw, hle, Good.swap (zs := [((Y, .row t2 sz2 l2), bs)]) (zs' := [((N, .row t sz l), B), ((Y, .row t2 sz2 l2'), bs2)]) (R := R) G hle (Nat.le_succ _) (fun x hx hxN => hμ x (by omega)) (fun b _ _ _ => by rw [hw]) ?_ (by simpa [Zs.own] using hn) (fun b h => ?_) (fun b h => ?_) ?_ ?_ (fun x hx => ?_) (by rw [hw]) (by rw [hw]) (by rw [hw]) (by rw [hw]; exact Nat.le_refl _)⟩
  · intro z hz
    simp only [List.mem_cons, List.not_mem_nil, or_false] at hz
    rcases hz with rfl | rfl
    · exact ho
    · exact hoY
  · obtain ⟨h1, h2, h3⟩ := hb b (by simpa [Zs.own] using h)
    rw [hw, hF]
    refine ⟨h1, h2, ?_⟩
    rcases h3 with h3 | h3
    · exact .inl (by simpa [Zs.own] using h3)
    · exact .inr (.inl h3)
  · rw [hF] at h
    rw [hw]
    exact ⟨G.frz b h, .inl h⟩
  · simp [Zs.keys]; omega
  · intro x hx
    simp only [Zs.keys, List.map_cons, List.map_nil, List.mem_cons, List.not_mem_nil, or_false] at hx
    rcases hx with rfl | rfl
    · exact ⟨by omega, .inr (Nat.le_refl _)⟩
    · exact ⟨by omega, .inl (by simp [Zs.keys])⟩
  · rcases (hU x).1 hx with hx | rfl
    · exact ⟨by have := G.usedN x hx; omega, .inl hx⟩
    · exact ⟨by omega, .inr (.inr (Nat.le_refl _))⟩
/-- A row becomes an own list inside another row's values. -/
theorem Good.closeIn {X Y n : Nat} {t t2 : TypeId} {sz sz2 : Nat} {l l2 l2' : List AV} {bX bs : List Nat} (G : Good m0 m N (((X, .row t sz l), bX) :: ((Y, .row t2 sz2 l2), bs) :: R) ex) (hn : n = l.length) (hI : Hos (.sl X 0 n) (.lst true t sz l) l2 l2') :
    ∃ m' b2, m'.w = m.w ∧ m.Le m' ∧ Good m0 m' N (((X, .used), []) :: ((Y, .row t2 sz2 l2'), b2) :: R) ex := by
  have hX : ORel m X (.row t sz l) bX := G.obj _ (List.mem_cons_self ..)
  have hY : ORel m Y (.row t2 sz2 l2) bs := G.obj ((Y, .row t2 sz2 l2), bs) (by simp)
  have hXY : Y ≠ X := by
    have := G.keys
    simp only [Zs.keys, List.map_cons, List.nodup_cons, List.mem_cons, not_or] at this
    exact fun e => this.1.1 e.symm
  let m' : Mem := ⟨fun x => if x = X then none else m.μ x, m.U, m.w, m.F⟩
  have hle : m.Le m' := by
    refine ⟨fun y h => h, fun y L' hy hL => ?_, fun b hb => ⟨hb, rfl⟩⟩
    simp only [m'] at hL
    split at hL
    · cases hL
    · exact hL
  obtain ⟨c0, B, bs', hp, hv, k⟩ := hI.orel rfl hY
  obtain ⟨rfl, hUX, A, q, rfl, hs⟩ := hv
  have hv' : VC m' (.lst true t sz l) [.slice A n q] bX := by
    obtain ⟨_, L, hL, hsz, hO⟩ := hX
    subst hn
    rcases hO with ⟨h1, rfl, rfl⟩ | ⟨h1, arr, bs', rfl, h2, h3, h4, h5, h6, h7⟩
    · rcases hs L hL with ⟨_, h, _⟩ | ⟨h, _⟩
      · rw [h]; exact .inl ⟨rfl, rfl, rfl⟩
      · rw [h1] at h; cases h
    · rcases hs L hL with ⟨h, _⟩ | ⟨_, h8, o, h9, h10⟩
      · rw [h1] at h; cases h
      · rw [h9]
        have : o = 0 := by rw [h10 (.inr rfl), Nat.zero_mul]
        subst this
        exact .inr ⟨L.blk, L.cap, arr, bs', rfl, rfl, h2, h3, h4, h5, h6, VCs.mono hle l (fun _ _ => rfl) h7⟩
  obtain ⟨bs2, hp2, hoY⟩ := k m' bX hle rfl (fun L hL => by simp only [m']; rw [if_neg hXY]; exact hL) hv'
  have hp3 : (bX ++ bs).Perm bs2 := ((hp.append_left bX).trans (by simpa using hp2.symm))
  obtain ⟨hn1, hb1⟩ := nodupL (zs := [((X, .row t sz l), bX), ((Y, .row t2 sz2 l2), bs)]) (R := R) (A := bs2) G (by simpa [Zs.own] using hp3)
  refine ⟨m', bs2, rfl, hle, Good.swap (zs := [((X, .row t sz l), bX), ((Y, .row t2 sz2 l2), bs)]) (zs' := [((X, .used), []), ((Y, .row t2 sz2 l2'), bs2)]) (R := R) G hle (Nat.le_refl _) (fun x hx _ => ?_) (fun b _ _ _ => rfl) ?_ (by simpa [Zs.own] using hn1) (fun b h => ?_) (fun b h => ⟨G.frz b h, .inl h⟩) ?_ ?_ (fun x hx => ⟨G.usedN x hx, .inl hx⟩) rfl rfl rfl (Nat.le_refl _)⟩
  · simp only [Zs.keys, List.map_cons, List.map_nil, List.mem_cons, List.not_mem_nil, or_false, not_or] at hx
    simp only [m']
    rw [if_neg hx.1]
  · intro z hz
    simp only [List.mem_cons, List.not_mem_nil, or_false] at hz
    rcases hz with rfl | rfl
    · exact ⟨rfl, hX.1⟩
    · exact hoY
  · obtain ⟨h1, h2, h3⟩ := hb1 b (by simpa [Zs.own] using h)
    refine ⟨h1, h2, ?_⟩
    rcases h3 with h3 | h3
    · exact .inl h3
    · exact .inr (.inl h3)
  · simp [Zs.keys]; exact fun e => hXY e.symm
  · intro x hx
    simp only [Zs.keys, List.map_cons, List.map_nil, List.mem_cons, List.not_mem_nil, or_false] at hx
    rcases hx with rfl | rfl
    · exact ⟨G.keyN _ (by simp [Zs.keys]), .inl (by simp [Zs.keys])⟩
    · exact ⟨G.keyN _ (by simp [Zs.keys]), .inl (by simp [Zs.keys])⟩
end
section
variable {nt : Nat} {st : St}
theorem St.thawIn {q Y : Nat} {t t2 : TypeId} {sz sz2 : Nat} {l l2 : List AV} {l2' : Nat → List AV} (hq : At st.S q (Y, .row t2 sz2 l2)) (hI : ∀ X, Hos (.lst true t sz l) (.sl X 0 l.length) l2 (l2' X)) : St.To nt st fun st' => ∃ X, st' = ⟨st.T, (X, .row t sz l) :: st.S.set q (Y, .row t2 sz2 (l2' X))⟩ := by
  rintro m0 a w ⟨m, N, Z, rfl, h2, h3, h4⟩
  obtain ⟨bs, hz⟩ := hq.z h2
  obtain ⟨R, hp1, hp2⟩ := perm_get hz
  obtain ⟨m', b1, b2, hw, hle, G'⟩ := (h3.perm hp1).thawIn (hI N)
  exact ⟨⟨st.T, (N, .row t sz l) :: st.S.set q (Y, .row t2 sz2 (l2' N))⟩, ⟨m', N + 1, ((N, .row t sz l), b1) :: Z.set q ((Y, .row t2 sz2 (l2' N)), b2), hw, by rw [List.map_cons, List.map_set, h2], G'.perm ((hp2 _).symm.cons _), h4.mono hle⟩, N, rfl⟩
theorem St.closeIn {p q X Y n : Nat} {t t2 : TypeId} {sz sz2 : Nat} {l l2 l2' : List AV} (hpq : p ≠ q) (hS : At st.S p (X, .row t sz l)) (hq : At st.S q (Y, .row t2 sz2 l2)) (hn : n = l.length) (hI : Hos (.sl X 0 n) (.lst true t sz l) l2 l2') : St.To nt st fun st' => st' = ⟨st.T, (st.S.set p (X, .used)).set q (Y, .row t2 sz2 l2')⟩ := by
  rintro m0 a w ⟨m, N, Z, rfl, h2, h3, h4⟩
  obtain ⟨bs, hz⟩ := hS.z h2
  obtain ⟨bs2, hz2⟩ := hq.z h2
  obtain ⟨R, hp1, hp2⟩ := perm_get2 hpq hz hz2
  obtain ⟨m', b2, hw, hle, G'⟩ := (h3.perm hp1).closeIn hn hI
  exact ⟨⟨st.T, (st.S.set p (X, .used)).set q (Y, .row t2 sz2 l2')⟩, ⟨m', N, (Z.set p ((X, .used), [])).set q ((Y, .row t2 sz2 l2'), b2), hw, by rw [List.map_set, List.map_set, h2], G'.perm (hp2 _ _).symm, h4.mono hle⟩, rfl⟩
end
end Go.Proofs.Ytcfleoaldoebhaa

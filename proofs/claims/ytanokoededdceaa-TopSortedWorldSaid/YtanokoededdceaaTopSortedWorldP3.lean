/-
  Part 3 of the texts under the law TopSortedWorld: the layer of abstract values, walks and plain laws. Conditions: those that each theorem names.
-/
import Derived.Laws.StructEq
import Derived.Lib.Overlaps
import Derived.Laws.BytesString
import Derived.Laws.BitsAllLaws
import Derived.Test.YtanokoededdceaaTopSortedWorldP2
namespace Go.Proofs.Ytanokoededdceaa
set_option linter.unusedVariables false
set_option linter.unusedSimpArgs false
variable {ro : Option Nat}
open Go.RowKit

/-! ### several places of a list -/
def setZ {β : Type} (Z : List β) : List (Nat × β) → List β
  | [] => Z
  | q :: r => setZ (Z.set q.1 q.2) r
theorem setZ_len {β : Type} (wz : List (Nat × β)) : ∀ Z : List β, (setZ Z wz).length = Z.length := by
  induction wz with
  | nil => intro Z; rfl
  | cons q r ih => intro Z; simp [setZ, ih]
theorem setZ_ne {β : Type} (wz : List (Nat × β)) {p : Nat} (h : p ∉ wz.map (·.1)) : ∀ Z : List β, (setZ Z wz)[p]? = Z[p]? := by
  induction wz with
  | nil => intro Z; rfl
  | cons q r ih =>
    intro Z
    simp only [List.map_cons, List.mem_cons, not_or] at h
    rw [setZ, ih h.2, List.getElem?_set_ne (fun e => h.1 e.symm)]
theorem setZ_at {β : Type} (wz : List (Nat × β)) (hnd : (wz.map (·.1)).Nodup) : ∀ Z : List β, (∀ q ∈ wz, q.1 < Z.length) → ∀ q ∈ wz, (setZ Z wz)[q.1]? = some q.2 := by
  induction wz with
  | nil => intro Z _ q hq; cases hq
  | cons a r ih =>
    intro Z hlt q hq
    rw [List.map_cons, List.nodup_cons] at hnd
    rcases List.mem_cons.1 hq with rfl | hq
    · rw [setZ, setZ_ne r hnd.1, List.getElem?_set_self (hlt _ (by simp))]
    · exact ih hnd.2 _ (fun q hq => by rw [List.length_set]; exact hlt q (by simp [hq])) q hq
theorem setAll_setZ (wS : List (Nat × Slot)) : ∀ S, setAll S wS = setZ S wS := by
  induction wS with
  | nil => intro S; rfl
  | cons q r ih => intro S; exact ih _
theorem perm_of_mem {l k : List Nat} (hl : l.Nodup) (hk : k.Nodup) (h : ∀ x, x ∈ l ↔ x ∈ k) : l.Perm k := by
  rw [List.perm_iff_count]
  intro a
  rw [hl.count, hk.count]
  simp only [h a]
theorem map_range_get {β : Type} (Z : List β) : (List.range Z.length).map (fun i => Z[i]?) = Z.map some := by
  apply List.ext_getElem (by simp)
  intro i h1 h2
  have : i < Z.length := by simpa using h1
  simp [this]
/-- The places ps of a list, and the rest. -/
theorem perm_gets {β : Type} (Z : List β) (ps : List Nat) (hnd : ps.Nodup) (hlt : ∀ p ∈ ps, p < Z.length) : ∃ R, ∀ wz : List (Nat × β), wz.map (·.1) = ps → (setZ Z wz).Perm (wz.map (·.2) ++ R) := by
  let Q := (List.range Z.length).filter fun i => !decide (i ∈ ps)
  refine ⟨Q.filterMap fun i => Z[i]?, fun wz hw => ?_⟩
  have hwn : (wz.map (·.1)).Nodup := by rw [hw]; exact hnd
  have hwl : ∀ q ∈ wz, q.1 < Z.length := fun q hq => hlt _ (by rw [← hw]; exact List.mem_map_of_mem hq)
  have h1 : (List.range Z.length).Perm (ps ++ Q) := by
    refine (List.filter_append_perm (fun i => decide (i ∈ ps)) (List.range Z.length)).symm.trans ?_
    refine List.Perm.append_right _ (perm_of_mem (List.nodup_range.filter _) hnd fun x => ?_)
    simp only [List.mem_filter, List.mem_range, decide_eq_true_eq]
    exact ⟨fun h => h.2, fun h => ⟨hlt x h, h⟩⟩
  have h2 : ((setZ Z wz).map some).Perm ((ps ++ Q).map fun i => (setZ Z wz)[i]?) := by
    rw [← map_range_get, setZ_len]
    exact h1.map _
  have h3 : ps.map (fun i => (setZ Z wz)[i]?) = (wz.map (·.2)).map some := by
    rw [← hw, List.map_map, List.map_map]
    exact List.map_congr_left fun q hq => setZ_at wz hwn Z hwl q hq
  have h4 : Q.map (fun i => (setZ Z wz)[i]?) = (Q.filterMap fun i => Z[i]?).map some := by
    have : ∀ L : List Nat, (∀ i ∈ L, i ∉ ps ∧ i < Z.length) → L.map (fun i => (setZ Z wz)[i]?) = (L.filterMap fun i => Z[i]?).map some := by
      intro L
      induction L with
      | nil => intro _; rfl
      | cons i L ih =>
        intro h
        have hi := h i (by simp)
        rw [List.map_cons, ih fun j hj => h j (by simp [hj]), setZ_ne wz (by rw [hw]; exact hi.1), List.getElem?_eq_getElem hi.2, List.filterMap_cons, List.getElem?_eq_getElem hi.2]
        rfl
    refine this Q fun i hi => ?_
    have := List.mem_filter.1 hi
    simpa using And.comm.1 this
  rw [List.map_append, h3, h4, ← List.map_append] at h2
  have h5 := h2.filterMap id
  simpa [List.filterMap_map] using h5

/-! ### what a value owns becomes objects -/
inductive TW : AV → AV → List Slot → Prop
  | frz {a : AV} : TW a a.frz []
  | lst {t : TypeId} {sz : Nat} {l : List AV} {Y n : Nat} (h : n = l.length) : TW (.lst true t sz l) (.sl Y 0 n) [(Y, .row t sz l)]
  | bx {t : TypeId} {a : AV} {Y n : Nat} (h : n = a.width) : TW (.bx t a) (.ptr Y 0 0) [(Y, .row t n [a])]
inductive TWs : List AV → List AV → List Slot → Prop
  | nil : TWs [] [] []
  | cons {a b : AV} {as bs : List AV} {s r : List Slot} (h : TW a b s) (k : TWs as bs r) : TWs (a :: as) (b :: bs) (s ++ r)
inductive TV : AV → AV → List Slot → Prop
  | cell {a b : AV} {s : List Slot} (h : TW a b s) (ha : cellish a = true) (hb : cellish b = true) : TV a b s
  | agg {as bs : List AV} {s : List Slot} (h : TWs as bs s) : TV (.agg as) (.agg bs) s
inductive TVs : List AV → List AV → List Slot → Prop
  | nil : TVs [] [] []
  | cons {a b : AV} {as bs : List AV} {s r : List Slot} (h : TV a b s) (ha : ntup a = true) (hb : ntup b = true) (k : TVs as bs r) : TVs (a :: as) (b :: bs) (s ++ r)
inductive TR : AV → AV → List Slot → Prop
  | frz {a : AV} : TR a a.frz []
  | v {a b : AV} {s : List Slot} (h : TV a b s) : TR a b s
  | tup {as bs : List AV} {s : List Slot} (h : TVs as bs s) : TR (.tup as) (.tup bs) s
def gones (s : List Slot) : List Slot := s.map fun e => (e.1, .gone)
section
variable {m0 m : Mem} {N : Nat} {R : Zs} {ex : List Nat}
/-- Blocks on the side become a new object at a stamp that was kept. -/
theorem Good.own1 {Y : Nat} {bsY br : List Nat} {t : TypeId} {sz : Nat} {l : List AV} (G : Good m0 m N (((Y, .gone), bsY) :: R) (br ++ ex)) (L : Loc) (hL : L.sz = sz)
    (h : (L.isNil = true ∧ l = [] ∧ br = []) ∨ (L.isNil = false ∧ ∃ arr bs', br = L.blk :: bs' ∧ m.w.heap[L.blk]? = some (.cells arr t (0, 0)) ∧ arr.size = L.cap * sz ∧ l.length ≤ L.cap ∧ L.cap ≤ maxLen ∧ (∀ e ∈ l, e.width = sz) ∧ VCs m l (arr.toList.take (l.length * sz)) bs')) :
    Good m0 ⟨fun y => if y = Y then some L else m.μ y, fun y => m.U y ∨ y = Y, m.w, m.F⟩ N (((Y, .row t sz l), br) :: R) ex ∧ m.Le ⟨fun y => if y = Y then some L else m.μ y, fun y => m.U y ∨ y = Y, m.w, m.F⟩ := by
  have hg := G.obj _ (List.mem_cons_self ..)
  obtain ⟨rfl, hYU⟩ := hg
  have hle : m.Le ⟨fun y => if y = Y then some L else m.μ y, fun y => m.U y ∨ y = Y, m.w, m.F⟩ := by
    refine ⟨fun y h => .inl h, fun y L' hy hL => ?_, fun b hb => ⟨hb, rfl⟩⟩
    simp only at hL
    split at hL
    · rename_i e; subst e; exact absurd hy hYU
    · exact hL
  refine ⟨?_, hle⟩
  have hkN : Y < N := G.keyN Y (by simp [Zs.keys])
  have hown : (br ++ ex).Nodup := by
    have := G.own
    rw [List.nodup_append] at this
    exact this.2.1
  refine Good.swap (zs := [((Y, .gone), [])]) (zs' := [((Y, .row t sz l), br)]) (R := R) G hle (Nat.le_refl _) (fun y hy _ => ?_) (fun _ _ _ _ => rfl) ?_ (by simpa [Zs.own] using hown) (fun b hb => ?_) (fun b hb => ⟨G.frz b hb, .inl hb⟩) (by simp [Zs.keys]) (fun y hy => ?_) (fun y hy => ?_) rfl rfl rfl (Nat.le_refl _)
  · simp only [Zs.keys, List.map_cons, List.map_nil, List.mem_singleton] at hy
    simp only
    rw [if_neg hy]
  · intro z hz
    simp only [List.mem_singleton] at hz
    subst hz
    refine ⟨.inr rfl, L, by simp, hL, ?_⟩
    rcases h with h | ⟨h1, arr, bs', e1, e2, e3, e4, e5, e6, e7⟩
    · exact .inl h
    · exact .inr ⟨h1, arr, bs', e1, e2, e3, e4, e5, e6, VCs.mono hle l (fun _ _ => rfl) e7⟩
  · have hb' : b ∈ br ++ ex := by simpa [Zs.own] using hb
    have := G.blk b (List.mem_append_right _ hb')
    exact ⟨this.1, this.2, .inr (.inl hb')⟩
  · simp only [Zs.keys, List.map_cons, List.map_nil, List.mem_singleton] at hy
    subst hy
    exact ⟨hkN, .inl (by simp [Zs.keys])⟩
  · rcases hy with hy | rfl
    · exact ⟨G.usedN y hy, .inl hy⟩
    · exact ⟨hkN, .inr (.inl (by simp [Zs.keys]))⟩
theorem TW.sound {a b : AV} {s : List Slot} (h : TW a b s) : ∀ {m : Mem} {br ex : List Nat} {G : Zs} {c : List Value}, G.map (·.1) = gones s → Good m0 m N (G ++ R) (br ++ ex) → VC m a c br →
    ∃ m' Z', m'.w = m.w ∧ Z'.map (·.1) = s ∧ Good m0 m' N (Z' ++ R) ex ∧ m.Le m' ∧ VC m' b c [] := by
  intro m br ex G c hG g hv
  cases h with
  | frz =>
    have : G = [] := by simpa [gones] using hG
    subst this
    obtain ⟨G2, hle⟩ := g.freeze _ rfl
    exact ⟨{ m with F := fun b => m.F b ∨ b ∈ br }, [], rfl, rfl, G2, hle, VC.frz hle a (fun b hb => ⟨.inr hb, rfl⟩) hv⟩
  | @lst t sz l Y n hn =>
    cases G with
    | nil => simp [gones] at hG
    | cons z G =>
      simp only [gones, List.map_cons, List.map_nil, List.cons.injEq, List.map_eq_nil_iff] at hG
      obtain ⟨hz, rfl⟩ := hG
      obtain ⟨⟨y, o⟩, bsY⟩ := z
      simp only [Prod.mk.injEq] at hz
      obtain ⟨rfl, rfl⟩ := hz
      rcases hv with ⟨rfl, rfl, rfl⟩ | ⟨gb, cap, arr, bs', rfl, rfl, e1, e2, e3, e4, e5, e6⟩
      · obtain ⟨G', hle⟩ := Good.own1 (br := []) (t := t) (sz := sz) (l := []) g ⟨0, 0, sz, true⟩ rfl (.inl ⟨rfl, rfl, rfl⟩)
        refine ⟨(⟨fun x => if x = y then some ⟨0, 0, sz, true⟩ else m.μ x, fun x => m.U x ∨ x = y, m.w, m.F⟩ : Mem), [((y, .row t sz []), [])], rfl, rfl, G', hle, rfl, .inr rfl, none, 0, by rw [hn]; rfl, fun L hL => ?_⟩
        simp only [if_true, Option.some.injEq] at hL
        subst hL
        exact .inl ⟨rfl, by rw [hn]; rfl, rfl, hn⟩
      · obtain ⟨G', hle⟩ := Good.own1 (br := gb :: bs') (t := t) (sz := sz) (l := l) g ⟨gb, cap, sz, false⟩ rfl (.inr ⟨rfl, arr, bs', rfl, e1, e2, e3, e4, e5, e6⟩)
        refine ⟨(⟨fun x => if x = y then some ⟨gb, cap, sz, false⟩ else m.μ x, fun x => m.U x ∨ x = y, m.w, m.F⟩ : Mem), [((y, .row t sz l), gb :: bs')], rfl, rfl, G', hle, rfl, .inr rfl, _, cap, by rw [hn], fun L hL => ?_⟩
        simp only [if_true, Option.some.injEq] at hL
        subst hL
        exact .inr ⟨rfl, by simp only; omega, 0, by simp, fun _ => by simp⟩
  | @bx t a Y n hn =>
    cases G with
    | nil => simp [gones] at hG
    | cons z G =>
      simp only [gones, List.map_cons, List.map_nil, List.cons.injEq, List.map_eq_nil_iff] at hG
      obtain ⟨hz, rfl⟩ := hG
      obtain ⟨⟨y, o⟩, bsY⟩ := z
      simp only [Prod.mk.injEq] at hz
      obtain ⟨rfl, rfl⟩ := hz
      obtain ⟨gb, arr, bs', rfl, rfl, e1, ⟨cap, e2, e3, e4⟩, e5⟩ := hv
      subst hn
      obtain ⟨G', hle⟩ := Good.own1 (br := gb :: bs') (t := t) (sz := a.width) (l := [a]) g ⟨gb, cap, a.width, false⟩ rfl (.inr ⟨rfl, arr, bs', rfl, e1, e2, e3, e4, fun e he => by rw [List.mem_singleton.1 he], by simpa using VCs.one.2 e5⟩)
      refine ⟨(⟨fun x => if x = y then some ⟨gb, cap, a.width, false⟩ else m.μ x, fun x => m.U x ∨ x = y, m.w, m.F⟩ : Mem), [((y, .row t a.width [a]), gb :: bs')], rfl, rfl, G', hle, rfl, .inr rfl, _, rfl, fun L hL => ?_⟩
      simp only [if_true, Option.some.injEq] at hL
      subst hL
      simp
theorem TWs.sound {as bs : List AV} {s : List Slot} (h : TWs as bs s) : ∀ {R : Zs} {m : Mem} {br ex : List Nat} {G : Zs} {c : List Value}, G.map (·.1) = gones s → Good m0 m N (G ++ R) (br ++ ex) → VCs m as c br →
    ∃ m' Z', m'.w = m.w ∧ Z'.map (·.1) = s ∧ Good m0 m' N (Z' ++ R) ex ∧ m.Le m' ∧ VCs m' bs c [] := by
  induction h with
  | nil =>
    intro R m br ex G c hG g hv
    obtain ⟨rfl, rfl⟩ := hv
    have : G = [] := by simpa [gones] using hG
    subst this
    exact ⟨m, [], rfl, rfl, g, .refl _, rfl, rfl⟩
  | @cons a b as bs s r h k ih =>
    intro R m br ex G c hG g hv
    obtain ⟨c1, c2, b1, b2, rfl, rfl, h1, h2⟩ := hv
    rw [gones, List.map_append] at hG
    obtain ⟨G1, G2, rfl, hG1, hG2⟩ := slots_split hG
    obtain ⟨m1, Z1, hw1, hZ1, g1, hle1, v1⟩ := h.sound (R := G2 ++ R) (ex := b2 ++ ex) hG1 (by simpa using g) h1
    have g1' : Good m0 m1 N (G2 ++ (Z1 ++ R)) (b2 ++ ex) := g1.perm (by
      rw [← List.append_assoc, ← List.append_assoc]
      exact List.Perm.append_right _ List.perm_append_comm)
    obtain ⟨m2, Z2, hw2, hZ2, g2, hle2, v2⟩ := ih (R := Z1 ++ R) hG2 g1' (VCs.mono hle1 as (fun b _ => by rw [hw1]) h2)
    refine ⟨m2, Z1 ++ Z2, hw2.trans hw1, by simp [hZ1, hZ2], g2.perm (by
      rw [← List.append_assoc]
      exact List.Perm.append_right _ List.perm_append_comm), hle1.trans hle2, c1, c2, [], [], rfl, rfl, VC.mono hle2 b (fun _ hb => by cases hb) v1, v2⟩
theorem TV.sound {a b : AV} {s : List Slot} (h : TV a b s) : ∀ {R : Zs} {m : Mem} {br ex : List Nat} {G : Zs} {u : Value}, G.map (·.1) = gones s → Good m0 m N (G ++ R) (br ++ ex) → VV m a u br →
    ∃ m' Z', m'.w = m.w ∧ Z'.map (·.1) = s ∧ Good m0 m' N (Z' ++ R) ex ∧ m.Le m' ∧ VV m' b u [] := by
  intro R m br ex G u hG g hv
  cases h with
  | cell h ha hb =>
    obtain ⟨m', Z', h1, h2, h3, h4, h5⟩ := h.sound hG g ((VV.of_vc ha).1 hv)
    exact ⟨m', Z', h1, h2, h3, h4, (VV.of_vc hb).2 h5⟩
  | agg h =>
    obtain ⟨cells, rfl, hv⟩ := hv
    obtain ⟨m', Z', h1, h2, h3, h4, h5⟩ := h.sound hG g hv
    exact ⟨m', Z', h1, h2, h3, h4, cells, rfl, h5⟩
theorem TVs.sound {as bs : List AV} {s : List Slot} (h : TVs as bs s) : ∀ {R : Zs} {m : Mem} {br ex : List Nat} {G : Zs} {us : List Value}, G.map (·.1) = gones s → Good m0 m N (G ++ R) (br ++ ex) → VTs m as us br →
    ∃ m' Z', m'.w = m.w ∧ Z'.map (·.1) = s ∧ Good m0 m' N (Z' ++ R) ex ∧ m.Le m' ∧ VTs m' bs us [] := by
  induction h with
  | nil =>
    intro R m br ex G c hG g hv
    obtain ⟨rfl, rfl⟩ := hv
    have : G = [] := by simpa [gones] using hG
    subst this
    exact ⟨m, [], rfl, rfl, g, .refl _, rfl, rfl⟩
  | @cons a b as bs s r h ha hb k ih =>
    intro R m br ex G c hG g hv
    obtain ⟨u, us, b1, b2, rfl, rfl, h1, h2⟩ := (VTs_cons ha).1 hv
    rw [gones, List.map_append] at hG
    obtain ⟨G1, G2, rfl, hG1, hG2⟩ := slots_split hG
    obtain ⟨m1, Z1, hw1, hZ1, g1, hle1, v1⟩ := h.sound (R := G2 ++ R) (ex := b2 ++ ex) hG1 (by simpa using g) h1
    have g1' : Good m0 m1 N (G2 ++ (Z1 ++ R)) (b2 ++ ex) := g1.perm (by
      rw [← List.append_assoc, ← List.append_assoc]
      exact List.Perm.append_right _ List.perm_append_comm)
    obtain ⟨m2, Z2, hw2, hZ2, g2, hle2, v2⟩ := ih (R := Z1 ++ R) hG2 g1' (VTs.mono hle1 as (fun b _ => by rw [hw1]) h2)
    refine ⟨m2, Z1 ++ Z2, hw2.trans hw1, by simp [hZ1, hZ2], g2.perm (by
      rw [← List.append_assoc]
      exact List.Perm.append_right _ List.perm_append_comm), hle1.trans hle2, (VTs_cons hb).2 ⟨u, us, [], [], rfl, rfl, VV.mono hle2 (fun _ hb => by cases hb) v1, v2⟩⟩
theorem TR.sound {a b : AV} {s : List Slot} (h : TR a b s) {R : Zs} {m : Mem} {br ex : List Nat} {G : Zs} {u : Value} (hG : G.map (·.1) = gones s) (g : Good m0 m N (G ++ R) (br ++ ex)) (hv : VV m a u br) :
    ∃ m' Z', m'.w = m.w ∧ Z'.map (·.1) = s ∧ Good m0 m' N (Z' ++ R) ex ∧ m.Le m' ∧ VV m' b u [] := by
  cases h with
  | frz =>
    have : G = [] := by simpa [gones] using hG
    subst this
    obtain ⟨G2, hle⟩ := g.freeze _ rfl
    exact ⟨{ m with F := fun b => m.F b ∨ b ∈ br }, [], rfl, rfl, G2, hle, VV.frz hle (fun b hb => ⟨.inr hb, rfl⟩) hv⟩
  | v h => exact h.sound hG g hv
  | tup h =>
    obtain ⟨us, rfl, hv⟩ := hv
    obtain ⟨m', Z', h1, h2, h3, h4, h5⟩ := h.sound hG g hv
    exact ⟨m', Z', h1, h2, h3, h4, us, rfl, h5⟩
end

theorem setZ_same {β : Type} (wz : List (Nat × β)) : ∀ Z : List β, (∀ q ∈ wz, Z[q.1]? = some q.2) → setZ Z wz = Z := by
  induction wz with
  | nil => intro Z _; rfl
  | cons q r ih =>
    intro Z h
    have h1 := h q (by simp)
    obtain ⟨h2, h3⟩ := List.getElem?_eq_some_iff.1 h1
    have : Z.set q.1 q.2 = Z := by rw [← h3]; exact List.set_getElem_self h2
    rw [setZ, this]
    exact ih Z fun q hq => h q (by simp [hq])
section
variable {P : Program} {ty : TypeId} {pos : String} {after : Array Edge} {g : Option (Nat × Bool)} {dst : Option Tmp} {xs : List (Operand × AV)} {f : FuncId} {ats : Array TypeId} {r v : AV} {Sin Sout news : List Slot} {rS wS : List (Nat × Slot)}
/-- What a call does to a state: for a callee by name or a closure; the result may be one of several. -/
theorem callG_runE {β : Type} {C : β → Prop} {rr vv : β → AV} {So nw : β → List Slot} {gs : List Slot} {wE : β → List (Nat × Slot)} {nt : Nat} {m0 : Mem} {T : List (Nat × AV)} {S : List Slot} {a : Act} {args : List AV} {vals : Array Value} (h : Spec P f args Sin fun r' S' => ∃ b, C b ∧ r' = rr b ∧ S' = So b) (hT : ∀ b, TR (rr b) (vv b) (nw b)) (hgs : ∀ b, gones (nw b) = gs) (hr : rS.map (·.2) = Sin ++ gs) (hw : ∀ b, (wE b).map (·.2) = So b ++ nw b) (hp : ∀ b, (wE b).map (·.1) = rS.map (·.1)) (hnd : (rS.map (·.1)).Nodup)
    (hS : ∀ q ∈ rS, S[q.1]? = some q.2) (hd : ∀ d, dst = some d → d < nt) {m : Mem} {N : Nat} {Z : Zs} (h2 : Z.map (·.1) = S) (h3 : Good m0 m N Z []) (h4 : TRel m0 m nt T a) (hv : VTs m args vals.toList []) :
    Calls P f vals m.w fun e w' => ∃ u, e = .returned u ∧ ∃ b, C b ∧ Rel nt m0 ⟨putD T dst (vv b), setAll S (wE b)⟩ (a.put dst u) w' := by
  obtain ⟨RS, hR⟩ := perm_gets S (rS.map (·.1)) hnd (fun p hp => by
    obtain ⟨q, hq, rfl⟩ := List.mem_map.1 hp
    exact (List.getElem?_eq_some_iff.1 (hS q hq)).1)
  have p1 := hR rS rfl
  rw [setZ_same rS S hS, hr, List.append_assoc] at p1
  obtain ⟨Z1, hz1, hz2⟩ := perm_lift (fun z : Slot × List Nat => z.1) p1 h2
  refine (h.run _ m N Z1 vals hz2 (h3.perm hz1).self hv).mono ?_
  rintro e w' ⟨u, r', S', m', N', Z', br, rfl, rfl, hm, G', hu, b, hb, rfl, rfl⟩
  have p2 := hR (wE b) (hp b)
  rw [hw, List.append_assoc, ← setAll_setZ] at p2
  obtain ⟨Zo, Zr, rfl, ho, hzr⟩ := slots_split hm
  obtain ⟨Zg, Zf, rfl, hg, hf⟩ := slots_split hzr
  have G1 := h3.perm hz1 |>.after G'
  have G2 : Good m0 m' N' (Zg ++ (Zo ++ Zf)) (br ++ []) := by
    have := G1.perm (Z' := Zg ++ (Zo ++ Zf)) (by
      rw [← List.append_assoc, ← List.append_assoc]
      exact List.Perm.append_right _ List.perm_append_comm)
    simpa using this
  obtain ⟨m2, Zn, hw2, hn, G3, hle, hv2⟩ := (hT b).sound (hg.trans (hgs b).symm) G2 hu
  have G4 := G3.perm (Z' := Zo ++ (Zn ++ Zf)) (by
    rw [← List.append_assoc, ← List.append_assoc]
    exact List.Perm.append_right _ List.perm_append_comm)
  obtain ⟨Z3, hz3, hz4⟩ := perm_lift (fun z : Slot × List Nat => z.1) (S' := setAll S (wE b)) p2.symm (Z := Zo ++ (Zn ++ Zf)) (by simp [ho, hn, hf])
  exact ⟨u, rfl, b, hb, m2, N', Z3, hw2, hz4, G4.perm hz3, ((h4.mono G'.le).mono hle).put hd hv2⟩
theorem callG_run {nt : Nat} {m0 : Mem} {T : List (Nat × AV)} {S : List Slot} {a : Act} {args : List AV} {vals : Array Value} (h : Spec P f args Sin fun r' S' => r' = r ∧ S' = Sout) (hT : TR r v news) (hr : rS.map (·.2) = Sin ++ gones news) (hw : wS.map (·.2) = Sout ++ news) (hp : wS.map (·.1) = rS.map (·.1)) (hnd : (rS.map (·.1)).Nodup)
    (hS : ∀ q ∈ rS, S[q.1]? = some q.2) (hd : ∀ d, dst = some d → d < nt) {m : Mem} {N : Nat} {Z : Zs} (h2 : Z.map (·.1) = S) (h3 : Good m0 m N Z []) (h4 : TRel m0 m nt T a) (hv : VTs m args vals.toList []) :
    Calls P f vals m.w fun e w' => ∃ u, e = .returned u ∧ Rel nt m0 ⟨putD T dst v, setAll S wS⟩ (a.put dst u) w' :=
  (callG_runE (β := Unit) (C := fun _ => True) (rr := fun _ => r) (vv := fun _ => v) (So := fun _ => Sout) (nw := fun _ => news) (wE := fun _ => wS) (h.mono fun r' S' ⟨e1, e2⟩ => ⟨(), trivial, e1, e2⟩) (fun _ => hT) (fun _ => rfl) hr (fun _ => hw) (fun _ => hp) hnd hS hd h2 h3 h4 hv).mono fun e w' ⟨u, e1, _, _, k⟩ => ⟨u, e1, k⟩
theorem wpIn_fwE {β : Type} {C : β → Prop} {sE : β → St} {ro : Option Nat} {nt : Nat} {m0 : Mem} {o : Oper} {a : Act} {w : World} {K : Act → World → Prop} {Q : Exit → Act → World → Prop} (hnd : ∀ c, o.op ≠ .defer c) (h : o.wp P a w (fun a' w' => ∃ b, C b ∧ Rel nt m0 (sE b) a' w') (fun _ _ _ => False)) (hK : ∀ a' w', (∃ b, C b ∧ Rel nt m0 (sE b) a' w') → K a' w') : o.wpIn (FW ro) 0 P a w K Q := by
  refine ⟨fun _ _ => trivial, ?_⟩
  rw [show o.semAt (FW ro).round a.eval = execOp a.eval o from Oper.semAt_eq _ _ _ hnd]
  unfold Oper.wp at h
  cases hr : (execOp a.eval o).run P w with
  | ok n w' =>
    rw [hr] at h
    cases n <;> simp only [Oper.upon, Oper.uponIn] at h ⊢ <;>
      first
        | exact hK _ _ h
        | exact ⟨fun h => (by simp [FW, Fence.wide] at h), CallsIn.mono (calls_fw h) (fun e w'' he => by cases e <;> first | exact hK _ _ he | exact he.elim | exact (by obtain ⟨_, _, hh⟩ := he; exact hh.elim))⟩
        | exact ⟨fun h => (by simp [FW, Fence.wide] at h), RowsIn.mono (rows_fw h) (fun _ _ he => hK _ _ he)⟩
  | halt x w' => rw [hr] at h; cases x <;> simp only [Oper.upon] at h
theorem OpT.callG (h : Spec P f (xs.map (·.2)) Sin fun r' S' => r' = r ∧ S' = Sout) (ht : noTup xs = true) (hT : TR r v news) (hr : rS.map (·.2) = Sin ++ gones news) (hw : wS.map (·.2) = Sout ++ news) (hp : wS.map (·.1) = rS.map (·.1)) (hnd : (rS.map (·.1)).Nodup) :
    OpT P ⟨dst, .call ⟨.value (.func f), (xs.map (·.1)).toArray, ats⟩, ty, pos, after, g⟩ xs rS v wS := by
  intro nt m0 T S a w hx hS hd hrel
  obtain ⟨m, N, Z, rfl, h2, h3, h4⟩ := hrel
  refine wp_call (fun _ => rfl) h.fn ?_
  exact callG_run h hT hr hw hp hnd hS hd h2 h3 h4 (by have := vts_of (noTup_spec ht) fun q hq => h4.ev (hx q hq); simpa [Function.comp_def] using this)
theorem OpT.callCG {x : Operand} {cap : List AV} (h : Spec P f (xs.map (·.2) ++ cap) Sin fun r' S' => r' = r ∧ S' = Sout) (hs : st1s cap = true) (ht : noTup xs = true) (hT : TR r v news) (hr : rS.map (·.2) = Sin ++ gones news) (hw : wS.map (·.2) = Sout ++ news) (hp : wS.map (·.1) = rS.map (·.1)) (hnd : (rS.map (·.1)).Nodup) :
    OpT P ⟨dst, .call ⟨.value x, (xs.map (·.1)).toArray, ats⟩, ty, pos, after, g⟩ ((x, .fn f cap) :: xs) rS v wS := by
  intro nt m0 T S a w hx hS hd hrel
  obtain ⟨m, N, Z, rfl, h2, h3, h4⟩ := hrel
  obtain ⟨vs, e1, h5⟩ := h4.ev (hx (x, .fn f cap) (by simp))
  injection e1 with e1
  refine wp_callV e1 h.fn ?_
  exact callG_run h hT hr hw hp hnd hS hd h2 h3 h4 (by
    have := vts_app (vts_of (noTup_spec ht) fun q hq => h4.ev (hx q (by simp [hq]))) (vts_cap hs h5)
    simpa [Function.comp_def] using this)
inductive Pos (S : List Slot) : List Slot → List Slot → List (Nat × Slot) → List (Nat × Slot) → Prop
  | nil : Pos S [] [] [] []
  | cons {a b : Slot} {as bs : List Slot} {rs ws : List (Nat × Slot)} {p : Nat} (h : At S p a) (k : Pos S as bs rs ws) : Pos S (a :: as) (b :: bs) ((p, a) :: rs) ((p, b) :: ws)
theorem Pos.all {S as bs : List Slot} {rs ws : List (Nat × Slot)} (h : Pos S as bs rs ws) : rs.map (·.2) = as ∧ ws.map (·.2) = bs ∧ ws.map (·.1) = rs.map (·.1) ∧ Gets S rs := by
  induction h with
  | nil => exact ⟨rfl, rfl, rfl, .nil⟩
  | cons h k ih => exact ⟨by simp [ih.1], by simp [ih.2.1], by simp [ih.2.2.1], .cons h ih.2.2.2⟩
/-- A call of which the result is one of several. -/
theorem AOps.callE {β : Type} {C : β → Prop} {rr vv : β → AV} {So nw : β → List Slot} {gs : List Slot} {wE : β → List (Nat × Slot)} {nt : Nat} {ops : Array Oper} {Q : Exit → St → Prop} {rest : List Oper} {T : List (Nat × AV)} {S : List Slot} (h : Spec P f (xs.map (·.2)) Sin fun r' S' => ∃ b, C b ∧ r' = rr b ∧ S' = So b) (hT : ∀ b, TR (rr b) (vv b) (nw b)) (hgs : ∀ b, gones (nw b) = gs) (hpos : ∀ b, Pos S (Sin ++ gs) (So b ++ nw b) rS (wE b)) (hnd : (rS.map (·.1)).Nodup) (hr : rS.map (·.2) = Sin ++ gs) (hG : Gets S rS) (hx : Evs T xs) (ht : noTup xs = true) (hd : dstOk dst nt = true)
    (k : ∀ b, C b → AOps ro P nt ops Q rest ⟨putD T dst (vv b), setAll S (wE b)⟩) : AOps ro P nt ops Q (⟨dst, .call ⟨.value (.func f), (xs.map (·.1)).toArray, ats⟩, ty, pos, after, none⟩ :: rest) ⟨T, S⟩ := by
  rintro m0 a w ⟨m, N, Z, rfl, h2, h3, h4⟩
  refine wpListIn_plain rfl fun K hK => wpIn_fwE (C := C) (sE := fun b => ⟨putD T dst (vv b), setAll S (wE b)⟩) (by simp) (wp_call (fun _ => rfl) h.fn (callG_runE h hT hgs hr (fun b => (hpos b).all.2.1) (fun b => (hpos b).all.2.2.1) hnd hG.all (dstOk_lt hd) h2 h3 h4 ?_)) fun a' w' ⟨b, hb, hrel⟩ => hK _ _ (k b hb m0 _ _ hrel)
  have := vts_of (noTup_spec ht) fun q hq => h4.ev (hx.all q hq)
  simpa [Function.comp_def] using this
theorem TR.fz {r v : AV} [h : Frz r v] : TR r v [] := h.h ▸ .frz
theorem TR.ls {t : TypeId} {sz : Nat} {l : List AV} {Y : Nat} : TR (.lst true t sz l) (.sl Y 0 l.length) [(Y, .row t sz l)] := .v (.cell (.lst rfl) rfl rfl)
end
/-! ### one cell of a row's values -/
mutual
/-- The cell a of a value is b in the other one. -/
inductive Ho (a b : AV) : AV → AV → Prop
  | here : Ho a b a b
  | agg {as bs : List AV} (h : Hos a b as bs) : Ho a b (.agg as) (.agg bs)
inductive Hos (a b : AV) : List AV → List AV → Prop
  | head {x y : AV} {as : List AV} (h : Ho a b x y) : Hos a b (x :: as) (y :: as)
  | tail {x : AV} {as bs : List AV} (h : Hos a b as bs) : Hos a b (x :: as) (x :: bs)
end
mutual
theorem Ho.vc {a b : AV} {m : Mem} : {x y : AV} → Ho a b x y → {c : List Value} → {bs : List Nat} → VC m x c bs →
    ∃ c0 B bs', bs.Perm (B ++ bs') ∧ VC m a c0 B ∧ ∀ m' B', m.Le m' → m'.w = m.w → VC m' b c0 B' → ∃ bs2, bs2.Perm (B' ++ bs') ∧ VC m' y c bs2
  | _, _, .here, c, bs, h => ⟨c, bs, [], by simp, h, fun m' B' _ _ k => ⟨B', by simp, k⟩⟩
  | _, _, .agg h, c, bs, k => Hos.vcs h k
theorem Hos.vcs {a b : AV} {m : Mem} : {x y : List AV} → Hos a b x y → {c : List Value} → {bs : List Nat} → VCs m x c bs →
    ∃ c0 B bs', bs.Perm (B ++ bs') ∧ VC m a c0 B ∧ ∀ m' B', m.Le m' → m'.w = m.w → VC m' b c0 B' → ∃ bs2, bs2.Perm (B' ++ bs') ∧ VCs m' y c bs2
  | _, _, .head (as := as) h, _, _, ⟨c1, c2, b1, b2, e1, e2, h1, h2⟩ => by
    obtain ⟨c0, B, bs', hp, hv, k⟩ := Ho.vc h h1
    refine ⟨c0, B, bs' ++ b2, by rw [e2, ← List.append_assoc]; exact hp.append_right _, hv, fun m' B' hle hw hb => ?_⟩
    obtain ⟨bs2, hp2, hv2⟩ := k m' B' hle hw hb
    exact ⟨bs2 ++ b2, by rw [← List.append_assoc]; exact hp2.append_right _, c1, c2, bs2, b2, e1, rfl, hv2, VCs.mono hle as (fun _ _ => by rw [hw]) h2⟩
  | _, _, .tail (x := x) h, _, _, ⟨c1, c2, b1, b2, e1, e2, h1, h2⟩ => by
    obtain ⟨c0, B, bs', hp, hv, k⟩ := Hos.vcs h h2
    refine ⟨c0, B, b1 ++ bs', ?_, hv, fun m' B' hle hw hb => ?_⟩
    · rw [e2]
      refine (hp.append_left _).trans ?_
      rw [← List.append_assoc, ← List.append_assoc]
      exact List.perm_append_comm.append_right _
    · obtain ⟨bs2, hp2, hv2⟩ := k m' B' hle hw hb
      refine ⟨b1 ++ bs2, ?_, c1, c2, b1, bs2, e1, rfl, VC.mono hle x (fun _ _ => by rw [hw]) h1, hv2⟩
      refine (hp2.append_left _).trans ?_
      rw [← List.append_assoc, ← List.append_assoc]
      exact List.perm_append_comm.append_right _
end
mutual
theorem Ho.width {a b : AV} (h0 : b.width = a.width) : {x y : AV} → Ho a b x y → y.width = x.width
  | _, _, .here => h0
  | _, _, .agg h => Hos.widths h0 h
theorem Hos.widths {a b : AV} (h0 : b.width = a.width) : {x y : List AV} → Hos a b x y → AV.widths y = AV.widths x
  | _, _, .head h => by simp only [AV.widths]; rw [Ho.width h0 h]
  | _, _, .tail h => by simp only [AV.widths]; rw [Hos.widths h0 h]
end
theorem Hos.len {a b : AV} {x y : List AV} (h : Hos a b x y) : y.length = x.length := by
  induction x generalizing y with
  | nil => cases h
  | cons e x ih => cases h with
    | head h => rfl
    | tail h => simp [ih h]
theorem Hos.wd {a b : AV} (h0 : b.width = a.width) {x y : List AV} {n : Nat} (h : Hos a b x y) (hw : ∀ e ∈ x, e.width = n) : ∀ e ∈ y, e.width = n := by
  induction x generalizing y with
  | nil => cases h
  | cons e x ih => cases h with
    | head h =>
      intro z hz
      rcases List.mem_cons.1 hz with rfl | hz
      · rw [h.width h0]; exact hw e (by simp)
      · exact hw z (by simp [hz])
    | tail h =>
      intro z hz
      rcases List.mem_cons.1 hz with rfl | hz
      · exact hw _ (by simp)
      · exact ih h (fun e he => hw e (by simp [he])) z hz
/-- A row of which one cell is turned. -/
theorem Hos.orel {a b : AV} {m : Mem} {Y : Nat} {t2 : TypeId} {sz2 : Nat} {l2 l2' : List AV} {bs : List Nat} (hI : Hos a b l2 l2') (h0 : b.width = a.width) (h : ORel m Y (.row t2 sz2 l2) bs) :
    ∃ c0 B bs', bs.Perm (B ++ bs') ∧ VC m a c0 B ∧ ∀ m' B', m.Le m' → m'.w = m.w → (∀ L, m.μ Y = some L → m'.μ Y = some L) → VC m' b c0 B' → ∃ bs2, bs2.Perm (B' ++ bs') ∧ ORel m' Y (.row t2 sz2 l2') bs2 := by
  obtain ⟨hU, L, h1, h2, h3⟩ := h
  rcases h3 with ⟨h4, rfl, h5⟩ | ⟨h4, arr, bs', h5, h6, h7, h8, h9, h10, h11⟩
  · cases hI
  · obtain ⟨c0, B, bs1, hp, hv, k⟩ := hI.vcs h11
    refine ⟨c0, B, L.blk :: bs1, ?_, hv, fun m' B' hle hw hμ hb => ?_⟩
    · rw [h5]; exact (hp.cons _).trans List.perm_middle.symm
    · obtain ⟨bs2, hp2, hv2⟩ := k m' B' hle hw hb
      refine ⟨L.blk :: bs2, (hp2.cons _).trans List.perm_middle.symm, hle.U _ hU, L, hμ L h1, h2, .inr ⟨h4, arr, bs2, rfl, by rw [hw]; exact h6, h7, by rw [hI.len]; exact h8, h9, hI.wd h0 h10, ?_⟩⟩
      rw [hI.len]; exact hv2
section
variable {m0 m : Mem} {N : Nat} {R : Zs} {ex : List Nat}
/-- An own list as a new row. -/
theorem own_row {Y : Nat} {t : TypeId} {sz : Nat} {l : List AV} {c : List Value} {B : List Nat} (hY : ¬ m.U Y) (h : VC m (.lst true t sz l) c B) :
    ∃ m', (∀ x, x ≠ Y → m'.μ x = m.μ x) ∧ (∀ x, m'.U x ↔ (m.U x ∨ x = Y)) ∧ m'.w = m.w ∧ m'.F = m.F ∧ m.Le m' ∧ VC m' (.sl Y 0 l.length) c [] ∧ ORel m' Y (.row t sz l) B := by
  have key : ∀ L : Loc, m.Le ⟨fun x => if x = Y then some L else m.μ x, fun x => m.U x ∨ x = Y, m.w, m.F⟩ := fun L => by
    refine ⟨fun y h => .inl h, fun y L' hy hL => ?_, fun b hb => ⟨hb, rfl⟩⟩
    simp only at hL
    split at hL
    · rename_i e; subst e; exact absurd hy hY
    · exact hL
  rcases h with ⟨rfl, rfl, rfl⟩ | ⟨gb, cap, arr, bs', rfl, rfl, e1, e2, e3, e4, e5, e6⟩
  · refine ⟨⟨fun x => if x = Y then some ⟨0, 0, sz, true⟩ else m.μ x, fun x => m.U x ∨ x = Y, m.w, m.F⟩, fun x hx => by simp [hx], fun x => .rfl, rfl, rfl, key _, ⟨rfl, .inr rfl, none, 0, rfl, fun L hL => ?_⟩, .inr rfl, ⟨0, 0, sz, true⟩, by simp, rfl, .inl ⟨rfl, rfl, rfl⟩⟩
    simp only [if_true, Option.some.injEq] at hL
    subst hL
    exact .inl ⟨rfl, rfl, rfl, rfl⟩
  · refine ⟨⟨fun x => if x = Y then some ⟨gb, cap, sz, false⟩ else m.μ x, fun x => m.U x ∨ x = Y, m.w, m.F⟩, fun x hx => by simp [hx], fun x => .rfl, rfl, rfl, key _, ⟨rfl, .inr rfl, _, cap, rfl, fun L hL => ?_⟩, .inr rfl, ⟨gb, cap, sz, false⟩, by simp, rfl, .inr ⟨rfl, arr, bs', rfl, e1, e2, e3, e4, e5, VCs.mono (key _) l (fun _ _ => rfl) e6⟩⟩
    simp only [if_true, Option.some.injEq] at hL
    subst hL
    exact .inr ⟨rfl, by simp only; omega, 0, by simp, fun _ => by simp⟩
theorem nodup2 {A B ex : List Nat} {R : Zs} {z : Slot × List Nat} (G : Good m0 m N (z :: R) ex) (hp : z.2.Perm A) : (A ++ ex).Nodup ∧ ∀ b ∈ A ++ ex, b < m.w.heap.size ∧ ¬ m.F b ∧ (b ∈ z.2 ∨ b ∈ ex) := by
  have h := G.own
  simp only [own_cons] at h
  have h1 : (z.2 ++ ex).Nodup := by
    have : (z.2 ++ Zs.own R ++ ex).Perm ((z.2 ++ ex) ++ Zs.own R) := by
      rw [List.append_assoc, List.append_assoc]
      exact List.Perm.append_left _ List.perm_append_comm
    exact (List.nodup_append.1 (this.nodup_iff.1 h)).1
  refine ⟨(hp.append_right ex).nodup_iff.1 h1, fun b hb => ?_⟩
  have hb' := (hp.append_right ex).mem_iff.2 hb
  have := G.blk b (by simp only [own_cons]; rcases List.mem_append.1 hb' with h | h <;> simp [h])
  exact ⟨this.1, this.2, List.mem_append.1 hb'⟩
theorem nodupL {A ex : List Nat} {R zs : Zs} (G : Good m0 m N (zs ++ R) ex) (hp : zs.own.Perm A) : (A ++ ex).Nodup ∧ ∀ b ∈ A ++ ex, b < m.w.heap.size ∧ ¬ m.F b ∧ (b ∈ zs.own ∨ b ∈ ex) := by
  have h := G.own
  rw [own_append] at h
  have h1 : (zs.own ++ ex).Nodup := by
    have : (zs.own ++ Zs.own R ++ ex).Perm ((zs.own ++ ex) ++ Zs.own R) := by
      rw [List.append_assoc, List.append_assoc]
      exact List.Perm.append_left _ List.perm_append_comm
    exact (List.nodup_append.1 (this.nodup_iff.1 h)).1
  refine ⟨(hp.append_right ex).nodup_iff.1 h1, fun b hb => ?_⟩
  have hb' := (hp.append_right ex).mem_iff.2 hb
  have := G.blk b (by rw [own_append]; rcases List.mem_append.1 hb' with h | h <;> simp [h])
  exact ⟨this.1, this.2, List.mem_append.1 hb'⟩
/-- An own list inside a row's values becomes a row. -/
theorem Good.thawIn {Y : Nat} {t t2 : TypeId} {sz sz2 : Nat} {l l2 l2' : List AV} {bs : List Nat} (G : Good m0 m N (((Y, .row t2 sz2 l2), bs) :: R) ex) (hI : Hos (.lst true t sz l) (.sl N 0 l.length) l2 l2') :
    ∃ m' b1 b2, m'.w = m.w ∧ m.Le m' ∧ Good m0 m' (N + 1) (((N, .row t sz l), b1) :: ((Y, .row t2 sz2 l2'), b2) :: R) ex := by
  have hY : ORel m Y (.row t2 sz2 l2) bs := G.obj _ (List.mem_cons_self ..)
  have hYN : Y < N := G.keyN Y (by simp [Zs.keys])
  have hNU : ¬ m.U N := fun h => Nat.lt_irrefl _ (G.usedN _ h)
  obtain ⟨c0, B, bs', hp, hv, k⟩ := hI.orel rfl hY
  obtain ⟨m', hμ, hU, hw, hF, hle, hv', ho⟩ := own_row hNU hv
  obtain ⟨bs2, hp2, hoY⟩ := k m' [] hle hw (fun L hL => by rw [hμ Y (by omega)]; exact hL) hv'
  have hp3 : bs.Perm (B ++ bs2) := hp.trans (by simpa using hp2.symm.append_left B)
  obtain ⟨hn, hb⟩ := nodup2 (B := []) G hp3
  refine ⟨m', B, bs2, hw, hle, Good.swap (zs := [((Y, .row t2 sz2 l2), bs)]) (zs' := [((N, .row t sz l), B), ((Y, .row t2 sz2 l2'), bs2)]) (R := R) G hle (Nat.le_succ _) (fun x hx hxN => hμ x (by omega)) (fun b _ _ _ => by rw [hw]) ?_ (by simpa [Zs.own] using hn) (fun b h => ?_) (fun b h => ?_) ?_ ?_ (fun x hx => ?_) (by rw [hw]) (by rw [hw]) (by rw [hw]) (by rw [hw]; exact Nat.le_refl _)⟩
  · intro z hz
    simp only [List.mem_cons, List.not_mem_nil, or_false] at hz
    rcases hz with rfl | rfl
    · exact ho
    · exact hoY
  · obtain ⟨h1, h2, h3⟩ := hb b (by simpa [Zs.own] using h)
    rw [hw, hF]
    refine ⟨h1, h2, ?_⟩
    rcases h3 with h3 | h3
    · exact .inl (by simpa [Zs.own] using h3)
    · exact .inr (.inl h3)
  · rw [hF] at h
    rw [hw]
    exact ⟨G.frz b h, .inl h⟩
  · simp [Zs.keys]; omega
  · intro x hx
    simp only [Zs.keys, List.map_cons, List.map_nil, List.mem_cons, List.not_mem_nil, or_false] at hx
    rcases hx with rfl | rfl
    · exact ⟨by omega, .inr (Nat.le_refl _)⟩
    · exact ⟨by omega, .inl (by simp [Zs.keys])⟩
  · rcases (hU x).1 hx with hx | rfl
    · exact ⟨by have := G.usedN x hx; omega, .inl hx⟩
    · exact ⟨by omega, .inr (.inr (Nat.le_refl _))⟩
/-- A row becomes an own list inside another row's values. -/
theorem Good.closeIn {X Y n : Nat} {t t2 : TypeId} {sz sz2 : Nat} {l l2 l2' : List AV} {bX bs : List Nat} (G : Good m0 m N (((X, .row t sz l), bX) :: ((Y, .row t2 sz2 l2), bs) :: R) ex) (hn : n = l.length) (hI : Hos (.sl X 0 n) (.lst true t sz l) l2 l2') :
    ∃ m' b2, m'.w = m.w ∧ m.Le m' ∧ Good m0 m' N (((X, .used), []) :: ((Y, .row t2 sz2 l2'), b2) :: R) ex := by
  have hX : ORel m X (.row t sz l) bX := G.obj _ (List.mem_cons_self ..)
  have hY : ORel m Y (.row t2 sz2 l2) bs := G.obj ((Y, .row t2 sz2 l2), bs) (by simp)
  have hXY : Y ≠ X := by
    have := G.keys
    simp only [Zs.keys, List.map_cons, List.nodup_cons, List.mem_cons, not_or] at this
    exact fun e => this.1.1 e.symm
  let m' : Mem := ⟨fun x => if x = X then none else m.μ x, m.U, m.w, m.F⟩
  have hle : m.Le m' := by
    refine ⟨fun y h => h, fun y L' hy hL => ?_, fun b hb => ⟨hb, rfl⟩⟩
    simp only [m'] at hL
    split at hL
    · cases hL
    · exact hL
  obtain ⟨c0, B, bs', hp, hv, k⟩ := hI.orel rfl hY
  obtain ⟨rfl, hUX, A, q, rfl, hs⟩ := hv
  have hv' : VC m' (.lst true t sz l) [.slice A n q] bX := by
    obtain ⟨_, L, hL, hsz, hO⟩ := hX
    subst hn
    rcases hO with ⟨h1, rfl, rfl⟩ | ⟨h1, arr, bs', rfl, h2, h3, h4, h5, h6, h7⟩
    · rcases hs L hL with ⟨_, h, _⟩ | ⟨h, _⟩
      · rw [h]; exact .inl ⟨rfl, rfl, rfl⟩
      · rw [h1] at h; cases h
    · rcases hs L hL with ⟨h, _⟩ | ⟨_, h8, o, h9, h10⟩
      · rw [h1] at h; cases h
      · rw [h9]
        have : o = 0 := by rw [h10 (.inr rfl), Nat.zero_mul]
        subst this
        exact .inr ⟨L.blk, L.cap, arr, bs', rfl, rfl, h2, h3, h4, h5, h6, VCs.mono hle l (fun _ _ => rfl) h7⟩
  obtain ⟨bs2, hp2, hoY⟩ := k m' bX hle rfl (fun L hL => by simp only [m']; rw [if_neg hXY]; exact hL) hv'
  have hp3 : (bX ++ bs).Perm bs2 := ((hp.append_left bX).trans (by simpa using hp2.symm))
  obtain ⟨hn1, hb1⟩ := nodupL (zs := [((X, .row t sz l), bX), ((Y, .row t2 sz2 l2), bs)]) (R := R) (A := bs2) G (by simpa [Zs.own] using hp3)
  refine ⟨m', bs2, rfl, hle, Good.swap (zs := [((X, .row t sz l), bX), ((Y, .row t2 sz2 l2), bs)]) (zs' := [((X, .used), []), ((Y, .row t2 sz2 l2'), bs2)]) (R := R) G hle (Nat.le_refl _) (fun x hx _ => ?_) (fun b _ _ _ => rfl) ?_ (by simpa [Zs.own] using hn1) (fun b h => ?_) (fun b h => ⟨G.frz b h, .inl h⟩) ?_ ?_ (fun x hx => ⟨G.usedN x hx, .inl hx⟩) rfl rfl rfl (Nat.le_refl _)⟩
  · simp only [Zs.keys, List.map_cons, List.map_nil, List.mem_cons, List.not_mem_nil, or_false, not_or] at hx
    simp only [m']
    rw [if_neg hx.1]
  · intro z hz
    simp only [List.mem_cons, List.not_mem_nil, or_false] at hz
    rcases hz with rfl | rfl
    · exact ⟨rfl, hX.1⟩
    · exact hoY
  · obtain ⟨h1, h2, h3⟩ := hb1 b (by simpa [Zs.own] using h)
    refine ⟨h1, h2, ?_⟩
    rcases h3 with h3 | h3
    · exact .inl h3
    · exact .inr (.inl h3)
  · simp [Zs.keys]; exact fun e => hXY e.symm
  · intro x hx
    simp only [Zs.keys, List.map_cons, List.map_nil, List.mem_cons, List.not_mem_nil, or_false] at hx
    rcases hx with rfl | rfl
    · exact ⟨G.keyN _ (by simp [Zs.keys]), .inl (by simp [Zs.keys])⟩
    · exact ⟨G.keyN _ (by simp [Zs.keys]), .inl (by simp [Zs.keys])⟩
end
section
variable {nt : Nat} {st : St}
theorem St.thawIn {q Y : Nat} {t t2 : TypeId} {sz sz2 : Nat} {l l2 : List AV} {l2' : Nat → List AV} (hq : At st.S q (Y, .row t2 sz2 l2)) (hI : ∀ X, Hos (.lst true t sz l) (.sl X 0 l.length) l2 (l2' X)) : St.To nt st fun st' => ∃ X, st' = ⟨st.T, (X, .row t sz l) :: st.S.set q (Y, .row t2 sz2 (l2' X))⟩ := by
  rintro m0 a w ⟨m, N, Z, rfl, h2, h3, h4⟩
  obtain ⟨bs, hz⟩ := hq.z h2
  obtain ⟨R, hp1, hp2⟩ := perm_get hz
  obtain ⟨m', b1, b2, hw, hle, G'⟩ := (h3.perm hp1).thawIn (hI N)
  exact ⟨⟨st.T, (N, .row t sz l) :: st.S.set q (Y, .row t2 sz2 (l2' N))⟩, ⟨m', N + 1, ((N, .row t sz l), b1) :: Z.set q ((Y, .row t2 sz2 (l2' N)), b2), hw, by rw [List.map_cons, List.map_set, h2], G'.perm ((hp2 _).symm.cons _), h4.mono hle⟩, N, rfl⟩
theorem St.closeIn {p q X Y n : Nat} {t t2 : TypeId} {sz sz2 : Nat} {l l2 l2' : List AV} (hpq : p ≠ q) (hS : At st.S p (X, .row t sz l)) (hq : At st.S q (Y, .row t2 sz2 l2)) (hn : n = l.length) (hI : Hos (.sl X 0 n) (.lst true t sz l) l2 l2') : St.To nt st fun st' => st' = ⟨st.T, (st.S.set p (X, .used)).set q (Y, .row t2 sz2 l2')⟩ := by
  rintro m0 a w ⟨m, N, Z, rfl, h2, h3, h4⟩
  obtain ⟨bs, hz⟩ := hS.z h2
  obtain ⟨bs2, hz2⟩ := hq.z h2
  obtain ⟨R, hp1, hp2⟩ := perm_get2 hpq hz hz2
  obtain ⟨m', b2, hw, hle, G'⟩ := (h3.perm hp1).closeIn hn hI
  exact ⟨⟨st.T, (st.S.set p (X, .used)).set q (Y, .row t2 sz2 l2')⟩, ⟨m', N, (Z.set p ((X, .used), [])).set q ((Y, .row t2 sz2 l2'), b2), hw, by rw [List.map_set, List.map_set, h2], G'.perm (hp2 _ _).symm, h4.mono hle⟩, rfl⟩
end
end Go.Proofs.Ytanokoededdceaa

namespace Go.Proofs.Ytanokoededdceaa
set_option linter.unusedVariables false
variable {ro : Option Nat}
theorem Pos.f {S as bs : List Slot} {rs ws : List (Nat × Slot)} (h : Pos S as bs rs ws := by (repeat (first | exact .nil | (apply Pos.cons; exact At.f)))) : Pos S as bs rs ws := h
section
variable {P : Program} {nt : Nat} {ops : Array Oper} {Q : Exit → St → Prop} {l rest : List Oper} {acc : List Eff} {T : List (Nat × AV)} {S : List Slot} {rS wS : List (Nat × Slot)} {v : AV} {ty : TypeId} {pos : String} {after : Array Edge} {dst : Option Tmp} {ats : Array TypeId} {f : FuncId} {r : AV} {Sin Sout news : List Slot} {c : Option (List Bool)} {code : Code}
def nodupB : List Nat → Bool
  | [] => true
  | a :: l => !(l.any (Nat.beq a)) && nodupB l
theorem nodupB_spec : ∀ {l : List Nat}, nodupB l = true → l.Nodup
  | [], _ => .nil
  | a :: l, h => by
    simp only [nodupB, Bool.and_eq_true, Bool.not_eq_true', List.any_eq_false] at h
    exact List.nodup_cons.2 ⟨fun hm => h.1 a hm (by simp), nodupB_spec h.2⟩
theorem AWP.thawIn {q Y : Nat} {t t2 : TypeId} {sz sz2 : Nat} {ll l2 : List AV} {l2' : Nat → List AV} (hq : At S q (Y, .row t2 sz2 l2)) (hI : ∀ X, Hos (.lst true t sz ll) (.sl X 0 ll.length) l2 (l2' X)) (k : ∀ X, AWP ro P nt code Q ⟨T, (X, .row t sz ll) :: S.set q (Y, .row t2 sz2 (l2' X))⟩) : AWP ro P nt code Q ⟨T, S⟩ :=
  .ghost (St.thawIn (st := ⟨T, S⟩) hq hI) fun st' ⟨X, e⟩ => by subst e; exact k X
theorem AWP.closeIn {p q X Y n : Nat} {t t2 : TypeId} {sz sz2 : Nat} {ll l2 l2' : List AV} (hS : At S p (X, .row t sz ll)) (hq : At S q (Y, .row t2 sz2 l2)) (hpq : Nat.beq p q = false) (hn : n = ll.length) (hI : Hos (.sl X 0 n) (.lst true t sz ll) l2 l2') (k : AWP ro P nt code Q ⟨T, (S.set p (X, .used)).set q (Y, .row t2 sz2 l2')⟩) : AWP ro P nt code Q ⟨T, S⟩ :=
  .ghost (St.closeIn (st := ⟨T, S⟩) (fun e => by subst e; simp at hpq) hS hq hn hI) fun st' e => by subst e; exact k
theorem W.callZ1 {x0 : Operand} {v0 : AV} {g : Option (Nat × Bool)} (h0 : Rd c T x0 v0) (h : Spec P f ([v0]) Sin fun r' S' => r' = r ∧ S' = Sout) (hT : TR r v news) (hpos : Pos S (Sin ++ gones news) (Sout ++ news) rS wS) (hnd : nodupB (rS.map (·.1)) = true) (ht : noTup [(x0, v0)] = true) : Stp c P ⟨dst, .call ⟨.value (.func f), #[x0], ats⟩, ty, pos, after, g⟩ T S [(x0, v0)] rS v wS := ⟨OpT.callG (xs := [(x0, v0)]) h ht hT hpos.all.1 hpos.all.2.1 hpos.all.2.2.1 (nodupB_spec hnd), (.cons h0 .nil), hpos.all.2.2.2⟩
theorem AOps.z1 {x0 : Operand} {v0 : AV} (h : Spec P f ([v0]) Sin fun r' S' => r' = r ∧ S' = Sout) (hT : TR r v news) (k : AOps ro P nt ops Q rest ⟨putD T dst v, setAll S wS⟩) (h0 : Rd none T x0 v0 := by rfl) (hpos : Pos S (Sin ++ gones news) (Sout ++ news) rS wS := by exact Pos.f) (hnd : nodupB (rS.map (·.1)) = true := by rfl) (ht : noTup [(x0, v0)] = true := by rfl) (hd : dstOk dst nt = true := by rfl) : AOps ro P nt ops Q (⟨dst, .call ⟨.value (.func f), #[x0], ats⟩, ty, pos, after, none⟩ :: rest) ⟨T, S⟩ := AOps.s (W.callZ1 h0 h hT hpos hnd ht) hd k
theorem AOps.t1 {x0 : Operand} {v0 : AV} {t : TypeId} {sz : Nat} {ll : List AV} (h : PS P f ([v0]) (.lst true t sz ll)) (k : ∀ Y, AOps ro P nt ops Q rest ⟨putD T dst (.sl Y 0 ll.length), (Y, .row t sz ll) :: S⟩) (h0 : Rd none T x0 v0 := by rfl) (ht : noTup [(x0, v0)] = true := by rfl) (hd : dstOk dst nt = true := by rfl) : AOps ro P nt ops Q (⟨dst, .call ⟨.value (.func f), #[x0], ats⟩, ty, pos, after, none⟩ :: rest) ⟨T, S⟩ := AOps.rs fun Y => AOps.s (W.callZ1 h0 h (.ls (Y := Y)) (.cons .here .nil) rfl ht) hd (k Y)
theorem RGo.t1 {x0 : Operand} {v0 : AV} {g : Option (Nat × Bool)} {ts : List Nat} {t : TypeId} {sz q Y : Nat} {ll : List AV} (h : PS P f ([v0]) (.lst true t sz ll)) (k : RGo P nt ops l Q rest (acc ++ [⟨⟨dst, .call ⟨.value (.func f), #[x0], ats⟩, ty, pos, after, g⟩, ts ++ tmpsOf [(x0, v0)], [q], .sl Y 0 ll.length, [(q, (Y, .row t sz ll))]⟩]) ⟨putD T dst (.sl Y 0 ll.length), setAll S [(q, (Y, .row t sz ll))]⟩) (hSq : At S q (Y, .gone) := by exact At.f) (h0 : Rd none T x0 v0 := by rfl) (ht : noTup [(x0, v0)] = true := by rfl) (hd : dstOk dst nt = true := by rfl) (hg : Grd ops T g ts := by first | exact .none | exact .met rfl rfl (by first | rfl | assumption)) : RGo P nt ops l Q (⟨dst, .call ⟨.value (.func f), #[x0], ats⟩, ty, pos, after, g⟩ :: rest) acc ⟨T, S⟩ := RGo.sg (W.callZ1 h0 h (.ls (Y := Y)) (.cons hSq .nil) rfl ht) hd hg k
theorem W.callZC1 {x : Operand} {cap : List AV} {x0 : Operand} {v0 : AV} {g : Option (Nat × Bool)} (hx : Rd c T x (.fn f cap)) (h0 : Rd c T x0 v0) (h : Spec P f (v0 :: cap) Sin fun r' S' => r' = r ∧ S' = Sout) (hT : TR r v news) (hpos : Pos S (Sin ++ gones news) (Sout ++ news) rS wS) (hnd : nodupB (rS.map (·.1)) = true) (hs : st1s cap = true) (ht : noTup [(x0, v0)] = true) : Stp c P ⟨dst, .call ⟨.value x, #[x0], ats⟩, ty, pos, after, g⟩ T S [(x, .fn f cap), (x0, v0)] rS v wS := ⟨OpT.callCG (xs := [(x0, v0)]) h hs ht hT hpos.all.1 hpos.all.2.1 hpos.all.2.2.1 (nodupB_spec hnd), (.cons hx (.cons h0 .nil)), hpos.all.2.2.2⟩
theorem AOps.zc1 {x : Operand} {cap : List AV} {x0 : Operand} {v0 : AV} (h : Spec P f (v0 :: cap) Sin fun r' S' => r' = r ∧ S' = Sout) (hT : TR r v news) (k : AOps ro P nt ops Q rest ⟨putD T dst v, setAll S wS⟩) (hx : Rd none T x (.fn f cap) := by rfl) (h0 : Rd none T x0 v0 := by rfl) (hpos : Pos S (Sin ++ gones news) (Sout ++ news) rS wS := by exact Pos.f) (hnd : nodupB (rS.map (·.1)) = true := by rfl) (hs : st1s cap = true := by rfl) (ht : noTup [(x0, v0)] = true := by rfl) (hd : dstOk dst nt = true := by rfl) : AOps ro P nt ops Q (⟨dst, .call ⟨.value x, #[x0], ats⟩, ty, pos, after, none⟩ :: rest) ⟨T, S⟩ := AOps.s (W.callZC1 hx h0 h hT hpos hnd hs ht) hd k
theorem AOps.e2 {x0 : Operand} {v0 : AV} {x1 : Operand} {v1 : AV} {β : Type} {C : β → Prop} {rr vv : β → AV} (h : Spec P f [v0, v1] [] fun r' S' => ∃ b, C b ∧ r' = rr b ∧ S' = []) [hf : ∀ b, Frz (rr b) (vv b)] (k : ∀ b, C b → AOps ro P nt ops Q rest ⟨putD T dst (vv b), S⟩) (h0 : Rd none T x0 v0 := by rfl) (h1 : Rd none T x1 v1 := by rfl) (ht : noTup [(x0, v0), (x1, v1)] = true := by rfl) (hd : dstOk dst nt = true := by rfl) : AOps ro P nt ops Q (⟨dst, .call ⟨.value (.func f), #[x0, x1], ats⟩, ty, pos, after, none⟩ :: rest) ⟨T, S⟩ := AOps.callE (xs := [(x0, v0), (x1, v1)]) (nw := fun _ => []) (wE := fun _ => []) h (fun b => .fz) (fun _ => rfl) (fun _ => .nil) .nil rfl .nil (.cons h0 (.cons h1 .nil)) ht hd k
theorem W.callZ3 {x0 : Operand} {v0 : AV} {x1 : Operand} {v1 : AV} {x2 : Operand} {v2 : AV} {g : Option (Nat × Bool)} (h0 : Rd c T x0 v0) (h1 : Rd c T x1 v1) (h2 : Rd c T x2 v2) (h : Spec P f ([v0, v1, v2]) Sin fun r' S' => r' = r ∧ S' = Sout) (hT : TR r v news) (hpos : Pos S (Sin ++ gones news) (Sout ++ news) rS wS) (hnd : nodupB (rS.map (·.1)) = true) (ht : noTup [(x0, v0), (x1, v1), (x2, v2)] = true) : Stp c P ⟨dst, .call ⟨.value (.func f), #[x0, x1, x2], ats⟩, ty, pos, after, g⟩ T S [(x0, v0), (x1, v1), (x2, v2)] rS v wS := ⟨OpT.callG (xs := [(x0, v0), (x1, v1), (x2, v2)]) h ht hT hpos.all.1 hpos.all.2.1 hpos.all.2.2.1 (nodupB_spec hnd), (.cons h0 (.cons h1 (.cons h2 .nil))), hpos.all.2.2.2⟩
theorem AOps.z3 {x0 : Operand} {v0 : AV} {x1 : Operand} {v1 : AV} {x2 : Operand} {v2 : AV} (h : Spec P f ([v0, v1, v2]) Sin fun r' S' => r' = r ∧ S' = Sout) (hT : TR r v news) (k : AOps ro P nt ops Q rest ⟨putD T dst v, setAll S wS⟩) (h0 : Rd none T x0 v0 := by rfl) (h1 : Rd none T x1 v1 := by rfl) (h2 : Rd none T x2 v2 := by rfl) (hpos : Pos S (Sin ++ gones news) (Sout ++ news) rS wS := by exact Pos.f) (hnd : nodupB (rS.map (·.1)) = true := by rfl) (ht : noTup [(x0, v0), (x1, v1), (x2, v2)] = true := by rfl) (hd : dstOk dst nt = true := by rfl) : AOps ro P nt ops Q (⟨dst, .call ⟨.value (.func f), #[x0, x1, x2], ats⟩, ty, pos, after, none⟩ :: rest) ⟨T, S⟩ := AOps.s (W.callZ3 h0 h1 h2 h hT hpos hnd ht) hd k
theorem AOps.e3 {x0 : Operand} {v0 : AV} {x1 : Operand} {v1 : AV} {x2 : Operand} {v2 : AV} {β : Type} {C : β → Prop} {rr vv : β → AV} (h : Spec P f [v0, v1, v2] [] fun r' S' => ∃ b, C b ∧ r' = rr b ∧ S' = []) [hf : ∀ b, Frz (rr b) (vv b)] (k : ∀ b, C b → AOps ro P nt ops Q rest ⟨putD T dst (vv b), S⟩) (h0 : Rd none T x0 v0 := by rfl) (h1 : Rd none T x1 v1 := by rfl) (h2 : Rd none T x2 v2 := by rfl) (ht : noTup [(x0, v0), (x1, v1), (x2, v2)] = true := by rfl) (hd : dstOk dst nt = true := by rfl) : AOps ro P nt ops Q (⟨dst, .call ⟨.value (.func f), #[x0, x1, x2], ats⟩, ty, pos, after, none⟩ :: rest) ⟨T, S⟩ := AOps.callE (xs := [(x0, v0), (x1, v1), (x2, v2)]) (nw := fun _ => []) (wE := fun _ => []) h (fun b => .fz) (fun _ => rfl) (fun _ => .nil) .nil rfl .nil (.cons h0 (.cons h1 (.cons h2 .nil))) ht hd k
end
end Go.Proofs.Ytanokoededdceaa

namespace Go.Proofs.Ytanokoededdceaa
set_option linter.unusedVariables false
variable {ro : Option Nat}
section
variable {P : Program} {nt : Nat} {c : Code} {ops : Array Oper} {rest : List Oper} {Q : Exit → St → Prop} {T : List (Nat × AV)} {S : List Slot} {p n X sz : Nat} {t : TypeId} {l : List AV}
theorem AWP.iceL (d : Nat) (l' : List AV) (he : AV.frzs l = l') (k : AWP ro P nt c Q ⟨(d, .lst false t sz l') :: T, S.set p (X, .used)⟩) (hd : look T d = some (.sl X 0 n) := by rfl) (hS : At S p (X, .row t sz l) := by exact At.f) (hn : n = l.length := by first | rfl | assumption | omega | (simp; omega) | simp [*]) : AWP ro P nt c Q ⟨T, S⟩ :=
  AWP.ice hd hS hn (he ▸ k)
end
end Go.Proofs.Ytanokoededdceaa

namespace Go.Proofs.Ytanokoededdceaa
set_option linter.unusedVariables false
set_option linter.unusedSimpArgs false
variable {ro : Option Nat}
open Go.RowKit
section
variable {P : Program} {m0 m : Mem} {N : Nat} {R : Zs} {ex : List Nat} {X sz : Nat} {l : List AV} {t t' te ty : TypeId} {x y : Operand} {pos : String} {after : Array Edge} {g : Option (Nat × Bool)} {dst : Option Tmp} {p : Nat}
theorem OpT.slice_lo {k : IntKind} {off n lo : Nat} {qi : Int} (he : tElem P t = some te) (hsz : tSz P te = some sz) (hq : qi = (lo : Int)) (hh : lo ≤ n) : OpT P ⟨dst, .slice t x (some y) none none, ty, pos, after, g⟩ [(x, .sl X off n), (y, .prim (.int k qi))] [(p, (X, .row t' sz l))] (.sl X (off + lo) (n - lo)) [] :=
  .pure_ fun m a hx hS => by
    obtain ⟨bs, hU, L, h1, h2, _⟩ := hS (p, (X, .row t' sz l)) (by simp)
    obtain ⟨_, hU', A, c, e1, h3⟩ := hx (x, .sl X off n) (by simp)
    have hy := (hx (y, .prim (.int k qi)) (by simp)).prim
    injection e1 with e1
    simp only at e1 hy
    subst hq
    have hcap : n ≤ c := by
      rcases h3 L h1 with ⟨_, e, _, e'⟩ | ⟨_, h4, o, e, _⟩
      · omega
      · injection e with _ _ e; omega
    have hr := run_slice (P := P) (w := m.w) he hsz (A := A) (len := n) (cap := c) (lo := lo) (hi := n) (vl := some (.int k lo)) (vh := none) (fun u hu => ⟨k, by injection hu with hu; exact hu.symm⟩) (by simp) (by simp) (by simp) hh hcap
    refine ⟨_, by simp only [execOp, Option.map_none, Option.map_some, e1, hy, Sem.run_bind, hr, Result.andThen_ok]; rfl, rfl, hU', _, _, rfl, fun L' hL' => ?_⟩
    rw [h1] at hL'; injection hL' with hL'; subst hL'
    rcases h3 L h1 with ⟨h5, e, e2, e3⟩ | ⟨h5, h4, o, e, h6⟩
    · injection e with e4 e5 e6
      subst e4 e6
      have : lo = 0 := by omega
      subst this
      exact .inl ⟨h5, by simp [e3], by omega, by omega⟩
    · injection e with e4 e5 e6
      subst e4 e6
      simp only [Option.map_some]
      by_cases hc : lo < L.cap - off
      · refine .inr ⟨h5, by omega, o + lo * sz, ?_, fun _ => ?_⟩
        · rw [if_neg (by omega), pt_add]
          congr 1
          omega
        · rw [h6 (.inl (by omega)), h2, Nat.add_mul]
      · have hlo : lo = L.cap - off := by omega
        refine .inr ⟨h5, by omega, o, by rw [if_pos hlo.symm]; congr 1; omega, fun h => ?_⟩
        rcases h with h | h
        · omega
        · have h0 : off = 0 := by omega
          rw [h6 (.inr h0), h0, show lo = 0 by omega]
theorem le_drew (m : Mem) : m.Le { m with w := m.w.drew } := ⟨fun _ h => h, fun _ _ _ h => h, fun _ h => ⟨h, rfl⟩⟩
theorem Good.drew {Z : Zs} (G : Good m0 m N Z ex) : Good m0 { m with w := m.w.drew } N Z ex :=
  ⟨fun z hz => ORel.mono (le_drew m) (fun hg hu => by have := G.obj z hz; rw [hg] at this; exact this.2 hu) (fun L h => h) (fun _ _ => rfl) (G.obj z hz), G.own, G.blk, G.frz, G.keys, G.keyN, G.usedN, G.le.trans (le_drew m), G.os, G.tape, G.output, G.size⟩
/-- append of n zeros, where there is no room. -/
theorem run_appz_grow {tx : TypeId} {kk : IntKind} {i : TypeInfo} {z : Value} (w : World) (ht : P.underlying t = some (.slice te)) (hk : P.underlying tx = some (.int kk)) (hi : P.info? te = some i) (hz : i.zero = some z) (hzs : z.cells.size = i.size) (base : Option Addr) (sLen sCap : Nat) (olds : List Value)
    (hold : (Builtin.firstCells i.size sLen (.slice base sLen sCap)).run P w.drew = .ok olds.toArray w.drew) (k2 : IntKind) (n : Nat) (hn63 : (n : Int) ≤ 9223372036854775807) (hb : n * i.bytes ≤ 281474976710656) (hn : n * i.size ≠ 0)
    (hg : sCap < sLen + n) (h63 : ((sLen + n : Nat) : Int) ≤ 9223372036854775807) (hfit : Builtin.nextslicecap (sLen + n) sCap * i.bytes ≤ 281474976710656) :
    (Builtin.append_ #[t, tx] ty #[.slice base sLen sCap, .int k2 (n : Int)]).run P w =
      .ok (.slice (some ⟨w.heap.size, 0, none⟩) (sLen + n) (grownCap w (sLen + n) sCap te))
        (w.drew.alloc (.cells ((olds.toArray ++ Builtin.zeroCells z.cells n) ++ Builtin.zeroCells z.cells (grownCap w (sLen + n) sCap te - (sLen + n))) te)) := by
  have hng : ¬ (sLen + n ≤ sCap) := by omega
  have h63' : ¬ (9223372036854775807 < ((sLen : Int) + (n : Int))) := by omega
  have h48' : ¬ (281474976710656 < Builtin.nextslicecap (sLen + n) sCap * i.bytes) := by omega
  have hw : IntKind.i64.wrap (n : Int) = n := wrap_id (by omega) hn63
  have h0 : ¬ ((n : Int) < 0) := by omega
  have hbi : ¬ (281474976710656 < (n : Int) * (i.bytes : Int)) := by
    have : ((n * i.bytes : Nat) : Int) ≤ 281474976710656 := by omega
    rw [Int.natCast_mul] at this
    omega
  have hn' : ¬ (n = 0 ∨ i.size = 0) := by simpa [Nat.mul_eq_zero] using hn
  simp [Builtin.append_, run_underlying ht, run_underlying hk, sizeOf, typeInfo, zeroValue, hi, hz, asInt, asIntOf, hw, h0, hbi, hng, h63', h48', Question.forced, hold, newRow, grownCap, hn']
  exact fun h => absurd h hn
def tInt (P : Program) (t : TypeId) : Bool := match P.underlying t with
  | some (.int _) => true
  | _ => false
theorem tInt_spec {t : TypeId} (h : tInt P t = true) : ∃ k, P.underlying t = some (.int k) := by
  unfold tInt at h
  split at h
  · rename_i k hk; exact ⟨k, hk⟩
  · cases h
theorem Good.less {o o' : AO} {bs bs' : List Nat} (G : Good m0 m N (((X, o), bs) :: R) ex) (h : ORel m X o' bs') (hs : bs'.Sublist bs) : Good m0 m N (((X, o'), bs') :: R) ex := by
  have hso : (Zs.own (((X, o'), bs') :: R) ++ ex).Sublist (Zs.own (((X, o), bs) :: R) ++ ex) := by
    simp only [own_cons]
    exact (hs.append (.refl _)).append (.refl _)
  refine ⟨fun z hz => ?_, G.own.sublist hso, fun b hb => G.blk b (hso.subset hb), G.frz, G.keys, G.keyN, G.usedN, G.le, G.os, G.tape, G.output, G.size⟩
  rcases List.mem_cons.1 hz with rfl | hz
  · exact h
  · exact G.obj z (List.mem_cons_of_mem _ hz)
/-- A row is cut short. -/
theorem St.shrink {nt : Nat} {st : St} (n : Nat) (hS : At st.S p (X, .row t sz l)) : St.To nt st fun st' => st' = ⟨st.T, st.S.set p (X, .row t sz (l.take n))⟩ := by
  rintro m0 a w ⟨m, N, Z, rfl, h2, h3, h4⟩
  obtain ⟨bs, hz⟩ := hS.z h2
  obtain ⟨R, hp1, hp2⟩ := perm_get hz
  have G := h3.perm hp1
  have hO : ORel m X (.row t sz l) bs := G.obj _ (List.mem_cons_self ..)
  obtain ⟨hU, L, hL, hLs, hO⟩ := hO
  obtain ⟨bs', hs, ho⟩ : ∃ bs', bs'.Sublist bs ∧ ORel m X (.row t sz (l.take n)) bs' := by
    rcases hO with ⟨h1, rfl, rfl⟩ | ⟨h1, arr, b0, rfl, e1, e2, e3, e4, e5, e6⟩
    · exact ⟨[], .refl _, hU, L, hL, hLs, .inl ⟨h1, by simp, rfl⟩⟩
    · obtain ⟨p1, p2, e7, k1, k2⟩ := VCs.take e5 e6 (k := min n l.length) (Nat.min_le_right _ _)
      have e8 : l.take (min n l.length) = l.take n := by rw [List.take_eq_take_iff]; omega
      rw [e8] at k1
      refine ⟨L.blk :: p1, by rw [e7]; exact .cons_cons _ (List.sublist_append_left _ _), hU, L, hL, hLs, .inr ⟨h1, arr, p1, rfl, e1, e2, Nat.le_trans (by rw [List.length_take]; exact Nat.min_le_right _ _) e3, e4, fun e he => e5 e (List.mem_of_mem_take he), ?_⟩⟩
      rw [List.take_take, Nat.min_eq_left (Nat.mul_le_mul_right _ (Nat.min_le_right _ _))] at k1
      rw [List.length_take]
      exact k1
  exact ⟨⟨st.T, st.S.set p (X, .row t sz (l.take n))⟩, ⟨m, N, Z.set p ((X, .row t sz (l.take n)), bs'), rfl, by rw [List.map_set, h2], (G.less ho hs).perm (hp2 _).symm, h4⟩, rfl⟩
end
section
variable {P : Program} {nt : Nat} {c : Code} {ops : Array Oper} {rest : List Oper} {Q : Exit → St → Prop} {T : List (Nat × AV)} {S : List Slot} {p n X sz off by_ : Nat} {t te tx ty : TypeId} {l : List AV} {x y : Operand} {dst : Option Tmp} {pos : String} {after : Array Edge} {k : IntKind} {q : Int} {t' : TypeId}
theorem AWP.shrink (n : Nat) (kk : AWP ro P nt c Q ⟨T, S.set p (X, .row t sz (l.take n))⟩) (hS : At S p (X, .row t sz l) := by exact At.f) : AWP ro P nt c Q ⟨T, S⟩ := .ghost (St.shrink (st := ⟨T, S⟩) n hS) fun st' e => by subst e; exact kk
theorem W.slice_lo {c : Option (List Bool)} {g : Option (Nat × Bool)} {lo : Nat} {qi : Int} [TEl P t te] [TSize P te sz] (hx : Rd c T x (.sl X off n)) (hy : Rd c T y (.prim (.int k qi))) (hSp : At S p (X, .row t' sz l)) (hq : qi = (lo : Int)) (hh : lo ≤ n) : Stp c P ⟨dst, .slice t x (some y) none none, ty, pos, after, g⟩ T S [(x, .sl X off n), (y, .prim (.int k qi))] [(p, (X, .row t' sz l))] (.sl X (off + lo) (n - lo)) [] := ⟨.slice_lo TEl.h TSize.h hq hh, .cons hx (.cons hy .nil), .cons hSp .nil⟩
end
end Go.Proofs.Ytanokoededdceaa

namespace Go.Proofs.Ytanokoededdceaa
set_option linter.unusedVariables false
variable {ro : Option Nat}
section
variable {P : Program} {nt : Nat} {c d : Code} {Q : Exit → St → Prop} {T : List (Nat × AV)} {S : List Slot} {p q n X Y sz sz2 : Nat} {t t2 : TypeId} {l l2 l2' : List AV} {st : St}
end
theorem jn {β : Type} {R : β → Prop} {inv : β → St} {st : St} (b : β) (hR : R b) (h0 : st.Le (inv b) := by exact ⟨by exact Lk.f, by exact Sub.f⟩) : Exit.normal = Exit.normal ∧ ∃ b, R b ∧ st.Le (inv b) := ⟨rfl, b, hR, h0⟩
theorem AWP.joinS {P : Program} {nt : Nat} {c d : Code} {Q Q2 : Exit → St → Prop} {st : St} {β : Type} (R : β → Prop) (inv : β → St) (h1 : AWP ro P nt c (fun e st' => e = .normal ∧ ∃ b, R b ∧ st'.Le (inv b)) st) (h2 : ∀ b, R b → AWP ro P nt d Q (inv b)) : AWP ro P nt c (andThen (AWP ro P nt d Q) Q2) st :=
  h1.mono fun e st' ⟨he, b, hb, hle⟩ => by subst he; exact AWP.weak hle (h2 b hb)
end Go.Proofs.Ytanokoededdceaa

namespace Go.Proofs.Ytanokoededdceaa
set_option linter.unusedVariables false
variable {ro : Option Nat}
theorem Hos.at {a b x y : AV} : {L : List AV} → {k : Nat} → L[k]? = some x → Ho a b x y → Hos a b L (L.set k y)
  | [], k, h, _ => by simp at h
  | z :: L, 0, h, hh => by
    have : z = x := by simpa using h
    subst this
    exact .head hh
  | z :: L, k + 1, h, hh => .tail (Hos.at (L := L) (by simpa using h) hh)
section
variable {P : Program} {nt : Nat} {c : Code} {ops : Array Oper} {rest : List Oper} {Q : Exit → St → Prop} {T : List (Nat × AV)} {S : List Slot} {p q n X Y sz sz2 : Nat} {t t2 : TypeId} {l l2 l2' : List AV} {st : St}
end
section
variable {P : Program} {dst : Option Tmp} {ty t ty2 : TypeId} {pos : String} {after : Array Edge} {g : Option (Nat × Bool)} {T : List (Nat × AV)} {S : List Slot} {c : Option (List Bool)} {x y : Operand} {i j : Int}
theorem W.subE (k : Int) (h : i - j = k) (hr : -9223372036854775808 ≤ k ∧ k ≤ 9223372036854775807) (hx : Rd c T x (.prim (.int .i64 i))) (hy : Rd c T y (.prim (.int .i64 j))) : Stp c P ⟨dst, .binOp .sub t x y ty2, ty, pos, after, g⟩ T S [(x, .prim (.int .i64 i)), (y, .prim (.int .i64 j))] [] (.prim (.int .i64 k)) [] := h ▸ W.sub hx hy (h ▸ hr)
theorem W.addE (k : Int) (h : i + j = k) (hr : -9223372036854775808 ≤ k ∧ k ≤ 9223372036854775807) (hx : Rd c T x (.prim (.int .i64 i))) (hy : Rd c T y (.prim (.int .i64 j))) : Stp c P ⟨dst, .binOp .add t x y ty2, ty, pos, after, g⟩ T S [(x, .prim (.int .i64 i)), (y, .prim (.int .i64 j))] [] (.prim (.int .i64 k)) [] := h ▸ W.add hx hy (h ▸ hr)
end
section
variable {P : Program} {dst : Option Tmp} {ty t ty2 : TypeId} {pos : String} {after : Array Edge} {g : Option (Nat × Bool)} {T : List (Nat × AV)} {S : List Slot} {c : Option (List Bool)} {x y : Operand} {a b : Bool}
end
end Go.Proofs.Ytanokoededdceaa

namespace Go.Proofs.Ytanokoededdceaa
set_option linter.unusedVariables false
section
variable {P : Program} {nt : Nat} {ops : Array Oper} {Q : Exit → St → Prop} {rest : List Oper} {T : List (Nat × AV)} {S : List Slot} {op : Op} {ty : TypeId} {pos : String} {after : Array Edge} {dst : Option Tmp} {l : List Oper} {acc : List Eff}
/-- What stands for an operation that is left out: nothing that a guard takes for met. -/
abbrev noA : AV := .opt false (.prim (.bool false))
theorem RGo.goNU {g : Nat} {b b' : Bool} {t : Nat} (k : RGo P nt ops l Q rest (acc ++ [⟨⟨dst, op, ty, pos, after, some (g, b)⟩, [t], [], noA, []⟩]) ⟨putD T dst noA, S⟩) (ht : (ops[g]?).bind (·.dst) = some t := by rfl) (hv : look T t = some (.prim (.bool b')) := by rfl) (hb : b' = !b := by first | rfl | assumption | (simp only [Bool.not_true, Bool.not_false]; assumption)) (hd : dstOk dst nt = true := by rfl) : RGo P nt ops l Q (⟨dst, op, ty, pos, after, some (g, b)⟩ :: rest) acc ⟨T, S⟩ := by
  have e : (b' == b) = false := by rw [hb]; cases b <;> rfl
  refine RGo.step_ (fun r => ?_) k
  have := Run.stepQ (P := P) (nt := nt) (ops := ops) (o := ⟨dst, op, ty, pos, after, some (g, b)⟩) (st := ⟨T, S⟩) (xs := []) (rS := []) (v := .prim (.bool false)) (cs := []) rfl ht hv rfl (fun h => absurd (h (b' == b) (by simp)) (by rw [e]; simp)) .nil .nil hd rfl (by rw [e]; exact r)
  rw [e] at this
  exact this
theorem RGo.goNV {g : Nat} {b b' : Bool} {t : Nat} (k : RGo P nt ops l Q rest (acc ++ [⟨⟨dst, op, ty, pos, after, some (g, b)⟩, [t], [], .opt false (.opt (b' == b) (.prim (.bool false))), []⟩]) ⟨putD T dst (.opt false (.opt (b' == b) (.prim (.bool false)))), S⟩) (ht : (ops[g]?).bind (·.dst) = some t := by rfl) (hv : look T t = some (.opt false (.prim (.bool b'))) := by rfl) (hd : dstOk dst nt = true := by rfl) : RGo P nt ops l Q (⟨dst, op, ty, pos, after, some (g, b)⟩ :: rest) acc ⟨T, S⟩ := by
  refine RGo.step_ (fun r => ?_) k
  exact Run.stepQ (P := P) (nt := nt) (ops := ops) (o := ⟨dst, op, ty, pos, after, some (g, b)⟩) (st := ⟨T, S⟩) (xs := []) (rS := []) (v := .prim (.bool false)) (cs := [false]) rfl ht hv rfl (fun h => absurd (h false (by simp)) (by simp)) .nil .nil hd rfl r
end
end Go.Proofs.Ytanokoededdceaa

namespace Go.Proofs.Ytanokoededdceaa
set_option linter.unusedVariables false
section
variable {P : Program} {dst : Option Tmp} {ty t ty2 : TypeId} {pos : String} {after : Array Edge} {g : Option (Nat × Bool)} {T : List (Nat × AV)} {S : List Slot} {c : Option (List Bool)} {x y : Operand}
theorem OpT.shr {k k' : IntKind} {i j : Int} {n : Nat} (hj : j = (n : Int)) (hn : n ≤ k.bits) : OpT P ⟨dst, .binOp .shr t x y ty2, ty, pos, after, g⟩ [(x, .prim (.int k i)), (y, .prim (.int k' j))] [] (.prim (.int k (i.fdiv (2 ^ n)))) [] :=
  run_binOp rfl (fun w => by
    subst hj
    have h : ¬ ((n : Int) < 0) := by omega
    simp [binOp, Op.shift, h, Sem.run_pure, Nat.min_eq_left hn]) (.inl ⟨by simp, by simp⟩)
theorem OpT.conv {k k' k0 : IntKind} {i : Int} {t2 : TypeId} (h1 : P.underlying t = some (.int k0)) (h2 : P.underlying t2 = some (.int k')) (hw : k'.wrap i = i) : OpT P ⟨dst, .convert t t2 x, ty, pos, after, g⟩ [(x, .prim (.int k i))] [] (.prim (.int k' i)) [] :=
  .pure_ fun m a hx _ => by
    have e1 := (hx (x, .prim (.int k i)) (by simp)).prim
    refine ⟨.int k' i, ?_, vv_prim _ rfl⟩
    simp only at e1
    simp [execOp, e1, convert, run_underlying h1, run_underlying h2, Conv.intToInt, hw, Sem.run_bind, Sem.run_pure, Result.andThen_ok]
end
end Go.Proofs.Ytanokoededdceaa

namespace Go.Proofs.Ytanokoededdceaa
set_option linter.unusedVariables false
section
variable {P : Program} {dst : Option Tmp} {ty t ty2 : TypeId} {pos : String} {after : Array Edge} {g : Option (Nat × Bool)} {T : List (Nat × AV)} {S : List Slot} {c : Option (List Bool)} {x y : Operand}
theorem VCs.prims {m : Mem} : {us : List Value} → {c : List Value} → {bs : List Nat} → VCs m (us.map .prim) c bs → c = us ∧ bs = []
  | [], _, _, ⟨h, k⟩ => ⟨h, k⟩
  | u :: us, _, _, ⟨c1, c2, b1, b2, e1, e2, ⟨⟨h1, _⟩, h2⟩, h3⟩ => by
    obtain ⟨r1, r2⟩ := VCs.prims h3
    rw [e1, e2, h1, h2, r1, r2]
    exact ⟨rfl, rfl⟩
theorem VV.aggP {m : Mem} {us : List Value} {l : List AV} {v : Value} (hl : l = us.map .prim) (h : VV m (.agg l) v []) : v = .agg us.toArray := by
  subst hl
  obtain ⟨cells, e, h⟩ := (show ∃ cells, v = .agg cells ∧ VCs m (us.map .prim) cells.toList [] from h)
  rw [e]
  congr 1
  exact Array.toList_inj.1 (by simpa using h.prims.1)
/-- Equality and inequality of two structs of plain cells. -/
theorem OpT.eqP {us vs : List Value} {l1 l2 : List AV} {r : Bool} (h1 : l1 = us.map .prim) (h2 : l2 = vs.map .prim) (hg : P.eqGuardType P.depth t = false) (h : ∀ w, (binOp .eql t (.agg us.toArray) (.agg vs.toArray)).run P w = .ok (.bool r) w) : OpT P ⟨dst, .binOp .eql t x y ty2, ty, pos, after, g⟩ [(x, .agg l1), (y, .agg l2)] [] (.prim (.bool r)) [] :=
  .pure_ fun m a hx _ => by
    have h1 := (hx (x, .agg l1) (by simp)).aggP h1
    have h2 := (hx (y, .agg l2) (by simp)).aggP h2
    refine ⟨.bool r, ?_, vv_prim _ rfl⟩
    simp only at h1 h2
    simp [execOp, h1, h2, Sem.run_bind, Result.andThen_ok, run_eqGuard_agg _ _ _ _ _ _ _ hg, h]
theorem OpT.neP {us vs : List Value} {l1 l2 : List AV} {r : Bool} (h1 : l1 = us.map .prim) (h2 : l2 = vs.map .prim) (hg : P.eqGuardType P.depth t = false) (h : ∀ w, (binOp .neq t (.agg us.toArray) (.agg vs.toArray)).run P w = .ok (.bool r) w) : OpT P ⟨dst, .binOp .neq t x y ty2, ty, pos, after, g⟩ [(x, .agg l1), (y, .agg l2)] [] (.prim (.bool r)) [] :=
  .pure_ fun m a hx _ => by
    have h1 := (hx (x, .agg l1) (by simp)).aggP h1
    have h2 := (hx (y, .agg l2) (by simp)).aggP h2
    refine ⟨.bool r, ?_, vv_prim _ rfl⟩
    simp only at h1 h2
    simp [execOp, h1, h2, Sem.run_bind, Result.andThen_ok, run_eqGuard_agg _ _ _ _ _ _ _ hg, h]
theorem W.eqP (us vs : List Value) {l1 l2 : List AV} {r : Bool} (hg : P.eqGuardType P.depth t = false) (h : ∀ w, (binOp .eql t (.agg us.toArray) (.agg vs.toArray)).run P w = .ok (.bool r) w) (hx : Rd c T x (.agg l1)) (hy : Rd c T y (.agg l2)) (h1 : l1 = us.map .prim := by rfl) (h2 : l2 = vs.map .prim := by rfl) :
    Stp c P ⟨dst, .binOp .eql t x y ty2, ty, pos, after, g⟩ T S [(x, .agg l1), (y, .agg l2)] [] (.prim (.bool r)) [] := ⟨.eqP h1 h2 hg h, .cons hx (.cons hy .nil), .nil⟩
theorem W.neP (us vs : List Value) {l1 l2 : List AV} {r : Bool} (hg : P.eqGuardType P.depth t = false) (h : ∀ w, (binOp .neq t (.agg us.toArray) (.agg vs.toArray)).run P w = .ok (.bool r) w) (hx : Rd c T x (.agg l1)) (hy : Rd c T y (.agg l2)) (h1 : l1 = us.map .prim := by rfl) (h2 : l2 = vs.map .prim := by rfl) :
    Stp c P ⟨dst, .binOp .neq t x y ty2, ty, pos, after, g⟩ T S [(x, .agg l1), (y, .agg l2)] [] (.prim (.bool r)) [] := ⟨.neP h1 h2 hg h, .cons hx (.cons hy .nil), .nil⟩
end
/-- A struct of a string and two whole numbers. -/
def one3 (P : Program) (t : TypeId) : Bool := match (P.fieldsOf t).toList with
  | [f1, f2, f3] => f1.name != "_" && f2.name != "_" && f3.name != "_" && f1.offset == 0 && f2.offset == 1 && f3.offset == 2 && (match P.underlying f1.type, P.underlying f2.type, P.underlying f3.type with | some .string, some (.int _), some (.int _) => true | _, _, _ => false)
  | _ => false
theorem run_part_i {P : Program} {t : TypeId} {k : IntKind} {xs : Array Value} {off : Nat} {v : Value} (ht : P.underlying t = some (.int k)) (hx : xs[off]? = some v) (w : World) : (part t xs off).run P w = .ok v w := by
  simp [part, isAgg, run_underlying ht, hx, Sem.run_bind, Sem.run_pure, Result.andThen_ok]
theorem run_part_s {P : Program} {t : TypeId} {xs : Array Value} {off : Nat} {v : Value} (ht : P.underlying t = some .string) (hx : xs[off]? = some v) (w : World) : (part t xs off).run P w = .ok v w := by
  simp [part, isAgg, run_underlying ht, hx, Sem.run_bind, Sem.run_pure, Result.andThen_ok]
theorem eq_three {P : Program} {t : TypeId} (h1 : P.underlying t = some (.struct (P.fieldsOf t))) (h2 : P.stoodInHeld t = false) (h : one3 P t = true) (s s' : ByteArray) (a b c d : Int) (w : World) :
    (Op.equalIn 10000 t (.agg #[.string s, .int .i64 a, .int .i64 b]) (.agg #[.string s', .int .i64 c, .int .i64 d])).run P w = .ok (decide (s.toList = s'.toList) && decide (a = c) && decide (b = d)) w := by
  rw [show (10000 : Nat) = 9999 + 1 from rfl, run_equalIn_agg w 9999 t _ _ h1 h2]
  unfold one3 at h
  split at h
  · rename_i f1 f2 f3 hf
    simp only [Bool.and_eq_true, bne_iff_ne, ne_eq, beq_iff_eq] at h
    obtain ⟨⟨⟨⟨⟨⟨n1, n2⟩, n3⟩, o1⟩, o2⟩, o3⟩, hu⟩ := h
    split at hu
    · rename_i k2 k3 u1 u2 u3
      have p1 : ∀ (x : ByteArray) (y z : Int), (part f1.type #[.string x, .int .i64 y, .int .i64 z] f1.offset).run P w = .ok (.string x) w := fun x y z => run_part_s u1 (by rw [o1]; rfl) w
      have p2 : ∀ (x : ByteArray) (y z : Int), (part f2.type #[.string x, .int .i64 y, .int .i64 z] f2.offset).run P w = .ok (.int .i64 y) w := fun x y z => run_part_i u2 (by rw [o2]; rfl) w
      have p3 : ∀ (x : ByteArray) (y z : Int), (part f3.type #[.string x, .int .i64 y, .int .i64 z] f3.offset).run P w = .ok (.int .i64 z) w := fun x y z => run_part_i u3 (by rw [o3]; rfl) w
      have q1 : ∀ x y : ByteArray, (Op.equalIn 9999 f1.type (.string x) (.string y)).run P w = .ok (x.toList == y.toList) w := fun x y => run_equalIn_string (P := P) w 9998 f1.type x y u1
      have q2 : ∀ a c : Int, (Op.equalIn 9999 f2.type (.int .i64 a) (.int .i64 c)).run P w = .ok (a == c) w := fun a c => run_equalIn_int (P := P) w 9998 f2.type .i64 k2 a c u2
      have q3 : ∀ a c : Int, (Op.equalIn 9999 f3.type (.int .i64 a) (.int .i64 c)).run P w = .ok (a == c) w := fun a c => run_equalIn_int (P := P) w 9998 f3.type .i64 k3 a c u3
      rw [hf]
      by_cases e1 : s.toList = s'.toList
      · by_cases e2 : a = c
        · by_cases e3 : b = d
          · simp [Op.eqFields, n1, n2, n3, Sem.run_bind, p1, p2, p3, q1, q2, q3, e1, e2, e3, Sem.run_pure, Sem.run_ite, Result.andThen_ok]
          · simp [Op.eqFields, n1, n2, n3, Sem.run_bind, p1, p2, p3, q1, q2, q3, e1, e2, e3, Sem.run_pure, Sem.run_ite, Result.andThen_ok]
        · simp [Op.eqFields, n1, n2, Sem.run_bind, p1, p2, q1, q2, e1, e2, Sem.run_pure, Sem.run_ite, Result.andThen_ok]
      · simp [Op.eqFields, n1, Sem.run_bind, p1, q1, e1, Sem.run_pure, Sem.run_ite, Result.andThen_ok]
    · cases hu
  · cases h
/-- A struct of two whole numbers. -/
def two2 (P : Program) (t : TypeId) : Bool := match (P.fieldsOf t).toList with
  | [f1, f2] => f1.name != "_" && f2.name != "_" && f1.offset == 0 && f2.offset == 1 && (match P.underlying f1.type, P.underlying f2.type with | some (.int _), some (.int _) => true | _, _ => false)
  | _ => false
theorem run_part_int {P : Program} {t : TypeId} {k : IntKind} {xs : Array Value} {off : Nat} {v : Value} (ht : P.underlying t = some (.int k)) (hx : xs[off]? = some v) (w : World) : (part t xs off).run P w = .ok v w := by
  simp [part, isAgg, run_underlying ht, hx, Sem.run_bind, Sem.run_pure, Result.andThen_ok]
theorem eql_two {P : Program} {t : TypeId} (h1 : P.underlying t = some (.struct (P.fieldsOf t))) (h2 : P.stoodInHeld t = false) (h : two2 P t = true) (a b c d : Int) (w : World) : (binOp .eql t (.agg #[.int .i64 a, .int .i64 b]) (.agg #[.int .i64 c, .int .i64 d])).run P w = .ok (.bool (decide (a = c) && decide (b = d))) w := by
  rw [run_eql_struct, show (10000 : Nat) = 9999 + 1 from rfl, run_equalIn_agg w 9999 t _ _ h1 h2]
  unfold two2 at h
  split at h
  · rename_i f1 f2 hf
    simp only [Bool.and_eq_true, bne_iff_ne, ne_eq, beq_iff_eq] at h
    obtain ⟨⟨⟨⟨n1, n2⟩, o1⟩, o2⟩, hu⟩ := h
    split at hu
    · rename_i k1 k2 u1 u2
      have p1 : ∀ x y : Int, (part f1.type #[.int .i64 x, .int .i64 y] f1.offset).run P w = .ok (.int .i64 x) w := fun x y => run_part_int u1 (by rw [o1]; rfl) w
      have p2 : ∀ x y : Int, (part f2.type #[.int .i64 x, .int .i64 y] f2.offset).run P w = .ok (.int .i64 y) w := fun x y => run_part_int u2 (by rw [o2]; rfl) w
      have q1 : ∀ a c : Int, (Op.equalIn 9999 f1.type (.int .i64 a) (.int .i64 c)).run P w = .ok (a == c) w := fun a c => run_equalIn_int (P := P) w 9998 f1.type .i64 k1 a c u1
      have q2 : ∀ a c : Int, (Op.equalIn 9999 f2.type (.int .i64 a) (.int .i64 c)).run P w = .ok (a == c) w := fun a c => run_equalIn_int (P := P) w 9998 f2.type .i64 k2 a c u2
      rw [hf]
      by_cases e1 : a = c
      · by_cases e2 : b = d
        · simp [Op.eqFields, n1, n2, Sem.run_bind, p1, p2, q1, q2, e1, e2, Sem.run_pure, Sem.run_ite, Result.andThen_ok]
        · simp [Op.eqFields, n1, n2, Sem.run_bind, p1, p2, q1, q2, e1, e2, Sem.run_pure, Sem.run_ite, Result.andThen_ok]
      · simp [Op.eqFields, n1, Sem.run_bind, p1, q1, e1, Sem.run_pure, Sem.run_ite, Result.andThen_ok]
    · cases hu
  · cases h
end Go.Proofs.Ytanokoededdceaa

namespace Go.Proofs.Ytanokoededdceaa
set_option linter.unusedVariables false
open Go.RowKit
/-- Values that own nothing. -/
def FreeE (e : AV) : Prop := ∀ m c bs, VC m e c bs → bs = []
def FreeL (l : List AV) : Prop := ∀ e ∈ l, FreeE e
theorem FreeL.vcs {l : List AV} (h : FreeL l) {m : Mem} {c : List Value} {bs : List Nat} (k : VCs m l c bs) : bs = [] := by
  induction l generalizing c bs with
  | nil => exact k.2
  | cons e l ih =>
    simp only [VCs] at k
    obtain ⟨c1, c2, b1, b2, _, rfl, h1, h2⟩ := k
    rw [h e (by simp) _ _ _ h1, ih (fun x hx => h x (by simp [hx])) h2]; rfl
theorem FreeL.sub {l l' : List AV} (h : FreeL l) (hs : ∀ e ∈ l', e ∈ l) : FreeL l' := fun e he => h e (hs e he)
theorem FreeE.agg {us : List AV} (h : FreeL us) : FreeE (.agg us) := fun m c bs k => h.vcs (show VCs m us c bs from k)
theorem FreeE.prim (u : Value) : FreeE (.prim u) := fun m c bs k => by
  simp only [VC] at k
  exact k.2
section
variable {m0 m : Mem} {N : Nat} {X sz : Nat} {t : TypeId} {l : List AV} {R : Zs} {ex : List Nat}
/-- A part of a row, or what lies behind its end, is written by values that own nothing. -/
theorem Good.over {bs : List Nat} (G : Good m0 m N (((X, .row t sz l), bs) :: R) ex) {L : Loc} {arr : Array Value} {bs0 : List Nat} (hL : m.μ X = some L) (hnil : L.isNil = false) (hbs : bs = L.blk :: bs0) (hb : m.w.heap[L.blk]? = some (.cells arr t (0, 0))) (harr : arr.size = L.cap * sz) (hl : l.length ≤ L.cap) (hcap : L.cap ≤ maxLen) (hsz : L.sz = sz) (hw : ∀ e ∈ l, e.width = sz)
    (hv : VCs m l (arr.toList.take (l.length * sz)) bs0) (hfr : FreeL l) {off : Nat} {ns : List AV} {cs : List Value} (hoff : off ≤ l.length) (hend : off + ns.length ≤ L.cap) (hnw : ∀ e ∈ ns, e.width = sz) (hn : VCs m ns cs []) :
    Good m0 { m with w := m.w.setRow L.blk (arr.toList.take (off * sz) ++ cs ++ arr.toList.drop (off * sz + cs.length)).toArray } N (((X, .row t sz (l.take off ++ ns ++ l.drop (off + ns.length))), [L.blk]) :: R) ex ∧ m.Le { m with w := m.w.setRow L.blk (arr.toList.take (off * sz) ++ cs ++ arr.toList.drop (off * sz + cs.length)).toArray } := by
  have hcs : cs.length = ns.length * sz := by rw [VCs.len _ hn, widths_of hnw]
  obtain rfl := hfr.vcs hv
  obtain ⟨p1, p2, e1, h1, h2⟩ := VCs.take hw hv (k := off) hoff
  obtain rfl := (hfr.sub fun e he => List.mem_of_mem_take he).vcs h1
  obtain rfl : p2 = [] := by simpa using e1.symm
  have h4 : VCs m (l.drop (off + ns.length)) (((arr.toList.take (l.length * sz)).drop (off * sz)).drop (ns.length * sz)) [] := by
    by_cases hk : off + ns.length ≤ l.length
    · obtain ⟨p3, p4, e2, h3, h4⟩ := VCs.take (l := l.drop off) (fun e he => hw e (List.mem_of_mem_drop he)) h2 (k := ns.length) (by rw [List.length_drop]; omega)
      rw [List.drop_drop] at h4
      have := (hfr.sub fun e he => List.mem_of_mem_drop he).vcs h4
      rw [this] at h4
      exact h4
    · have hz : l.length * sz ≤ off * sz + ns.length * sz := by rw [← Nat.add_mul]; exact Nat.mul_le_mul_right _ (by omega)
      rw [List.drop_of_length_le (by omega), List.drop_drop, List.drop_of_length_le (by rw [List.length_take]; omega)]
      exact ⟨rfl, rfl⟩
  have hsz0 : l.length * sz ≤ arr.toList.length := by rw [show arr.toList.length = arr.size from Array.length_toList, harr]; exact Nat.mul_le_mul_right _ hl
  have hle1 : off * sz + ns.length * sz ≤ arr.toList.length := by rw [← Nat.add_mul, show arr.toList.length = arr.size from Array.length_toList, harr]; exact Nat.mul_le_mul_right _ hend
  have hol : off * sz ≤ l.length * sz := Nat.mul_le_mul_right _ hoff
  have hlen : (l.take off ++ ns ++ l.drop (off + ns.length)).length = max l.length (off + ns.length) := by simp only [List.length_append, List.length_take, List.length_drop]; omega
  refine Good.write G hL hnil hbs hb (l' := l.take off ++ ns ++ l.drop (off + ns.length)) (bs1 := []) ?_ (by rw [hlen]; omega) hcap hsz ?_ ?_ (by simp) (by simp) _ rfl
  · simp only [List.size_toArray, List.length_append, List.length_take, List.length_drop, Array.length_toList, harr] at hsz0 hle1 ⊢
    omega
  · intro e he
    rcases List.mem_append.1 he with he | he
    · rcases List.mem_append.1 he with he | he
      · exact hw e (List.mem_of_mem_take he)
      · exact hnw e he
    · exact hw e (List.mem_of_mem_drop he)
  · rw [hlen]
    have e3 : (arr.toList.take (off * sz) ++ cs ++ arr.toList.drop (off * sz + cs.length)).take (max l.length (off + ns.length) * sz) = (arr.toList.take (l.length * sz)).take (off * sz) ++ cs ++ ((arr.toList.take (l.length * sz)).drop (off * sz)).drop (ns.length * sz) := by
      have hm2 : off * sz + ns.length * sz ≤ max l.length (off + ns.length) * sz := by rw [← Nat.add_mul]; exact Nat.mul_le_mul_right _ (by omega)
      rw [List.take_append, List.take_of_length_le (by simp only [List.length_append, List.length_take]; omega)]
      congr 1
      · rw [List.take_take, Nat.min_eq_left hol]
      · rw [List.drop_drop, hcs, List.drop_take]
        simp only [List.length_append, List.length_take]
        rw [Nat.min_eq_left (by omega), hcs]
        by_cases hk : off + ns.length ≤ l.length
        · rw [Nat.max_eq_left hk]
        · have hz : l.length * sz ≤ off * sz + ns.length * sz := by rw [← Nat.add_mul]; exact Nat.mul_le_mul_right _ (by omega)
          rw [Nat.max_eq_right (by omega), Nat.add_mul, Nat.sub_self, Nat.sub_eq_zero_of_le (by omega)]
    rw [show (arr.toList.take (off * sz) ++ cs ++ arr.toList.drop (off * sz + cs.length)).toArray.toList = arr.toList.take (off * sz) ++ cs ++ arr.toList.drop (off * sz + cs.length) from rfl, e3]
    exact (h1.append hn).append h4
/-- What a part of a row holds, as the source of a copy. -/
theorem src_core {Y : Nat} {l2 : List AV} {t2 : TypeId} {bs2 : List Nat} {vy : Value} {i b k : Nat} (hO : ORel m Y (.row t2 sz l2) bs2) (hy : VV m (.sl Y i b) vy []) (hb : 0 < b) (hfr : FreeL l2) (hi : i + k ≤ l2.length) : ∃ A2 q2 cs, vy = .slice (some A2) b q2 ∧ VCs m ((l2.drop i).take k) cs [] ∧ cs.length = k * sz ∧ ∀ j v, cs[j]? = some v → m.w.cell? (A2.add j) = some v := by
  obtain ⟨hU, L, hL, hLs, hO⟩ := hO
  obtain ⟨_, hU', A, q, e1, hs⟩ := hy
  injection e1 with e1
  subst e1
  rcases hs L hL with ⟨h5, e2, e3, e4⟩ | ⟨h5, h6, o, h7, h8⟩
  · omega
  · rcases hO with ⟨h9, _⟩ | ⟨hnil, arr, bs', rfl, hb2, harr, hlc, hcap, hw, hv⟩
    · rw [h5] at h9; cases h9
    · have ho := h8 (.inl (by omega))
      injection h7 with h7 h9 h10
      subst h7
      obtain ⟨p1, p2, e5, h11, h12⟩ := VCs.take hw hv (k := i) (by omega)
      obtain ⟨p3, p4, e6, h13, h14⟩ := VCs.take (l := l2.drop i) (fun e he => hw e (List.mem_of_mem_drop he)) h12 (k := k) (by rw [List.length_drop]; omega)
      have h15 := (hfr.sub fun e he => List.mem_of_mem_drop (List.mem_of_mem_take he)).vcs h13
      rw [h15] at h13
      have hsz0 : l2.length * sz ≤ arr.toList.length := by rw [show arr.toList.length = arr.size from Array.length_toList, harr]; exact Nat.mul_le_mul_right _ hlc
      have hle : i * sz + k * sz ≤ l2.length * sz := by rw [← Nat.add_mul]; exact Nat.mul_le_mul_right _ hi
      refine ⟨_, q, _, rfl, h13, ?_, fun j v hj => ?_⟩
      · simp only [List.length_take, List.length_drop]; omega
      · rw [pt_add, ho, hLs]
        rw [List.getElem?_take] at hj
        split at hj
        · rw [List.getElem?_drop, List.getElem?_take] at hj
          split at hj
          · simp only [World.cell?, hb2]
            rw [← Array.getElem?_toList]; exact hj
          · cases hj
        · cases hj
/-- copy onto a row. -/
theorem copy_core {P : Program} {tt te ty : TypeId} {Z : Zs} {p : Nat} {bs : List Nat} {vx : Value} {j a b q2 : Nat} (G : Good m0 m N Z []) (hz : Z[p]? = some ((X, .row t sz l), bs)) (hx : VV m (.sl X j a) vx []) (ha : 0 < a) (hj : j ≤ l.length) (hfr : FreeL l) (he : tElem P tt = some te) (hs : tSz P te = some sz)
    {ns : List AV} {cs : List Value} (hns : ∀ e ∈ ns, e.width = sz) (hcs : VCs m ns cs []) (hk : ns.length = min b a) {A2 : Addr} (hsrc : ∀ j v, cs[j]? = some v → m.w.cell? (A2.add j) = some v) :
    ∃ m' b', (Builtin.copy_ #[tt, tt] ty #[vx, .slice (some A2) b q2]).run P m.w = .ok (goInt ns.length) m'.w ∧ Good m0 m' N (Z.set p ((X, .row t sz (l.take j ++ ns ++ l.drop (j + ns.length))), b')) [] ∧ m.Le m' := by
  obtain ⟨R, hp1, hp2⟩ := perm_get hz
  have G1 := G.perm hp1
  have hO := G1.obj _ (List.mem_cons_self ..)
  obtain ⟨hU, L, hL, hLs, hO⟩ := hO
  obtain ⟨_, hU', A, q, e1, hsl⟩ := hx
  injection e1 with e1
  subst e1
  rcases hsl L hL with ⟨h5, e2, e3, e4⟩ | ⟨h5, h6, o, h7, h8⟩
  · omega
  · rcases hO with ⟨h9, _⟩ | ⟨hnil, arr, bs', rfl, hb2, harr, hlc, hcap, hw, hv⟩
    · rw [h5] at h9; cases h9
    · have ho := h8 (.inl (by omega))
      injection h7 with h7 h9 h10
      subst h7
      have hcl : cs.length = ns.length * sz := by rw [VCs.len _ hcs, widths_of hns]
      have hle : j + ns.length ≤ L.cap := by omega
      have hfit : j * sz + cs.length ≤ arr.size := by rw [hcl, harr, ← Nat.add_mul]; exact Nat.mul_le_mul_right _ hle
      obtain ⟨G2, hle2⟩ := Good.over G1 hL h5 rfl hb2 harr hlc hcap hLs hw hv hfr hj hle hns hcs
      refine ⟨_, [L.blk], ?_, G2.perm (hp2 _).symm, hle2⟩
      have hl := run_loadCells_list (P := P) m.w A2 cs hsrc
      have hst := run_storeCells_at P L.blk (j * sz) t cs 0 arr m.w hb2 (by simpa using hfit) (VCs.ones _ hcs)
      have hu := tElem_spec he
      unfold tSz at hs
      rw [ho, hLs]
      have hkk : Nat.min b a = ns.length := hk.symm
      cases hq : P.info? te with
      | none => rw [hq] at hs; cases hs
      | some i =>
        rw [hq] at hs
        injection hs with hs
        rw [hcl] at hl
        simp [Builtin.copy_, run_underlying hu, Builtin.lenOf, Builtin.firstCells, sizeOf, typeInfo, hq, hs, hkk, hl, hst]
end
section
variable {P : Program} {dst : Option Tmp} {ty t te t2 : TypeId} {pos : String} {after : Array Edge} {g : Option (Nat × Bool)} {x y : Operand} {p q r sz X Y Z : Nat} {l l2 : List AV}
theorem set_self {α : Type} {S : List α} {p : Nat} {z : α} (h : S[p]? = some z) : S.set p z = S := by
  obtain ⟨h5, h6⟩ := List.getElem?_eq_some_iff.1 h
  have h7 := List.set_getElem_self h5
  rw [h6] at h7; exact h7
/-- copy from one row onto another one. -/
theorem OpT.copyO {j a i b : Nat} (k : Nat) (he : tElem P t = some te) (hsz : tSz P te = some sz) (ha : 0 < a) (hb : 0 < b) (hk : k = min b a) (hj : j ≤ l.length) (hi : i + k ≤ l2.length) (hfr : FreeL l) (hfr2 : FreeL l2) (hw2 : ∀ e ∈ l2, e.width = sz) (hpq : p ≠ q) :
    OpT P ⟨dst, .call ⟨.builtin .copy, #[x, y], #[t, t]⟩, ty, pos, after, g⟩ [(x, .sl X j a), (y, .sl Y i b)] [(p, (X, .row te sz l)), (q, (Y, .row te sz l2))] (.prim (.int .i64 k)) [(p, (X, .row te sz (l.take j ++ (l2.drop i).take k ++ l.drop (j + k))))] := by
  intro nt m0 T S ac w hx hS hd hr
  obtain ⟨m, N, W, rfl, h2, h3, h4⟩ := hr
  have h2' : W.map (·.1) = S := h2
  have hxa : VV m (.sl X j a) (ac.eval x) [] := h4.ev (hx (x, .sl X j a) (by simp))
  have hya : VV m (.sl Y i b) (ac.eval y) [] := h4.ev (hx (y, .sl Y i b) (by simp))
  have hSp := hS (p, (X, .row te sz l)) (by simp)
  have hSq := hS (q, (Y, .row te sz l2)) (by simp)
  rw [← h2', List.getElem?_map] at hSp hSq
  cases hz : W[p]? with
  | none => rw [hz] at hSp; cases hSp
  | some z =>
  cases hzq : W[q]? with
  | none => rw [hzq] at hSq; cases hSq
  | some zq =>
    rw [hz] at hSp
    rw [hzq] at hSq
    simp only [Option.map_some, Option.some.injEq] at hSp hSq
    obtain ⟨z1, bs⟩ := z
    obtain ⟨zq1, bsq⟩ := zq
    simp only at hSp hSq
    subst hSp hSq
    obtain ⟨A2, q2, cs, e1, hcs, hcl, hsrc⟩ := src_core (h3.obj _ (List.mem_of_getElem? hzq)) hya hb hfr2 hi
    have hkl : ((l2.drop i).take k).length = k := by rw [List.length_take, List.length_drop]; omega
    obtain ⟨m', b', hrun, G', hle⟩ := copy_core (ty := ty) (q2 := q2) h3 hz hxa ha hj hfr he hsz (ns := (l2.drop i).take k) (fun e he => hw2 e (List.mem_of_mem_drop (List.mem_of_mem_take he))) hcs (b := b) (by rw [hkl]; exact hk) hsrc
    rw [hkl] at hrun G'
    unfold Oper.wp
    rw [run_builtin]
    simp only [builtin, List.map_toArray, List.map_cons, List.map_nil, e1, Sem.run_bind, hrun, Result.andThen_ok, Sem.run_pure]
    refine ⟨m', N, _, rfl, ?_, G', (h4.mono hle).put hd (vv_prim _)⟩
    rw [List.map_set, h2']; rfl
/-- copy from a row onto itself, also beyond its end. -/
theorem OpT.copyS {j a i b : Nat} (k : Nat) (he : tElem P t = some te) (hsz : tSz P te = some sz) (ha : 0 < a) (hb : 0 < b) (hk : k = min b a) (hj : j ≤ l.length) (hi : i + k ≤ l.length) (hfr : FreeL l) (hw2 : ∀ e ∈ l, e.width = sz) :
    OpT P ⟨dst, .call ⟨.builtin .copy, #[x, y], #[t, t]⟩, ty, pos, after, g⟩ [(x, .sl X j a), (y, .sl X i b)] [(p, (X, .row te sz l))] (.prim (.int .i64 k)) [(p, (X, .row te sz (l.take j ++ (l.drop i).take k ++ l.drop (j + k))))] := by
  intro nt m0 T S ac w hx hS hd hr
  obtain ⟨m, N, W, rfl, h2, h3, h4⟩ := hr
  have h2' : W.map (·.1) = S := h2
  have hxa : VV m (.sl X j a) (ac.eval x) [] := h4.ev (hx (x, .sl X j a) (by simp))
  have hya : VV m (.sl X i b) (ac.eval y) [] := h4.ev (hx (y, .sl X i b) (by simp))
  have hSp := hS (p, (X, .row te sz l)) (by simp)
  rw [← h2', List.getElem?_map] at hSp
  cases hz : W[p]? with
  | none => rw [hz] at hSp; cases hSp
  | some z =>
    rw [hz] at hSp
    simp only [Option.map_some, Option.some.injEq] at hSp
    obtain ⟨z1, bs⟩ := z
    simp only at hSp
    subst hSp
    obtain ⟨A2, q2, cs, e1, hcs, hcl, hsrc⟩ := src_core (h3.obj _ (List.mem_of_getElem? hz)) hya hb hfr hi
    have hkl : ((l.drop i).take k).length = k := by rw [List.length_take, List.length_drop]; omega
    obtain ⟨m', b', hrun, G', hle⟩ := copy_core (ty := ty) (q2 := q2) h3 hz hxa ha hj hfr he hsz (ns := (l.drop i).take k) (fun e he => hw2 e (List.mem_of_mem_drop (List.mem_of_mem_take he))) hcs (b := b) (by rw [hkl]; exact hk) hsrc
    rw [hkl] at hrun G'
    unfold Oper.wp
    rw [run_builtin]
    simp only [builtin, List.map_toArray, List.map_cons, List.map_nil, e1, Sem.run_bind, hrun, Result.andThen_ok, Sem.run_pure]
    refine ⟨m', N, _, rfl, ?_, G', (h4.mono hle).put hd (vv_prim _)⟩
    rw [List.map_set, h2']; rfl
/-! ### the capacity -/
/-- The object X has room for c elements in all. -/
def capK (X c : Nat) (u0 : Value) : AV → Value → Prop := fun v u => v = .sl X 0 c ∧ u = u0
def CapV (c : Nat) (u0 : Value) : Prop := ∃ A, u0 = .slice A c c
theorem cap_loc {m : Mem} {c : Nat} {u0 : Value} {bs : List Nat} {L : Loc} (hc : CapV c u0) (h : ORel m Z (.tv (capK X c u0)) bs) (hL : m.μ X = some L) : (L.isNil = true ∧ c = 0) ∨ (L.isNil = false ∧ c = L.cap) := by
  obtain ⟨_, _, h⟩ := h
  obtain ⟨A, rfl⟩ := hc
  obtain ⟨_, _, A', q, e1, hs⟩ := h _ _ ⟨rfl, rfl⟩
  injection e1 with e1
  injection e1 with e2 e3 e4
  subst e2 e4
  rcases hs L hL with ⟨h5, _, _, h6⟩ | ⟨h5, h6, o, h7, _⟩
  · exact .inl ⟨h5, h6⟩
  · injection h7 with _ _ h8
    exact .inr ⟨h5, by omega⟩
theorem OpT.cap {n c : Nat} {u0 : Value} (he : tElem P t = some te) (hc : CapV c u0) : OpT P ⟨dst, .call ⟨.builtin .cap, #[x], #[t]⟩, ty, pos, after, g⟩ [(x, .sl X 0 n)] [(p, (X, .row te sz l)), (q, (Z, .tv (capK X c u0)))] (.prim (.int .i64 c)) [] :=
  .pure_ fun m a hx hS => by
    obtain ⟨bs, hO⟩ := hS (p, (X, .row te sz l)) (by simp)
    obtain ⟨bs2, hO2⟩ := hS (q, (Z, .tv (capK X c u0))) (by simp)
    obtain ⟨hU, L, hL, hLs, _⟩ := hO
    have hcl := cap_loc hc hO2 hL
    obtain ⟨_, hU', A, d, e1, hs⟩ := hx (x, .sl X 0 n) (by simp)
    injection e1 with e1
    simp only at e1
    have hd : d = c := by
      rcases hs L hL with ⟨h5, e2, _, h6⟩ | ⟨h5, h6, o, h7, _⟩
      · injection e2 with _ _ e3
        rcases hcl with ⟨_, h⟩ | ⟨h, _⟩
        · omega
        · rw [h5] at h; cases h
      · injection h7 with _ _ h8
        rcases hcl with ⟨h, _⟩ | ⟨_, h⟩
        · rw [h5] at h; cases h
        · omega
    subst hd
    refine ⟨_, ?_, vv_prim (.int .i64 d)⟩
    rw [run_builtin]
    simp [builtin, Builtin.cap_, e1, run_underlying (tElem_spec he), Sem.run_bind, Sem.run_pure, Result.andThen_ok, goInt]
theorem OpT.slice_cap {k : IntKind} {n c hi : Nat} {qi : Int} {u0 : Value} (he : tElem P t = some te) (hsz : tSz P te = some sz) (hc : CapV c u0) (hq : qi = (hi : Int)) (hh : hi ≤ c) : OpT P ⟨dst, .slice t x none (some y) none, ty, pos, after, g⟩ [(x, .sl X 0 n), (y, .prim (.int k qi))] [(p, (X, .row te sz l)), (q, (Z, .tv (capK X c u0)))] (.sl X 0 hi) [] :=
  .pure_ fun m a hx hS => by
    obtain ⟨bs, hO⟩ := hS (p, (X, .row te sz l)) (by simp)
    obtain ⟨bs2, hO2⟩ := hS (q, (Z, .tv (capK X c u0))) (by simp)
    obtain ⟨hU, L, hL, hLs, _⟩ := hO
    have hcl := cap_loc hc hO2 hL
    obtain ⟨_, hU', A, d, e1, hs⟩ := hx (x, .sl X 0 n) (by simp)
    have hy := (hx (y, .prim (.int k qi)) (by simp)).prim
    injection e1 with e1
    simp only at e1 hy
    subst hq
    rcases hs L hL with ⟨h5, e2, _, h6⟩ | ⟨h5, h6, o, h7, h8⟩
    · have hc0 : c = 0 := by
        rcases hcl with ⟨_, h⟩ | ⟨h, _⟩
        · exact h
        · rw [h5] at h; cases h
      injection e2 with e2 e3 e4
      subst e2 e4
      obtain rfl : hi = 0 := by omega
      have hr := run_slice (P := P) (w := m.w) he hsz (A := none) (len := n) (cap := 0) (lo := 0) (hi := 0) (vl := none) (vh := some (.int k 0)) (by simp) (by simp) (fun u hu => ⟨k, by injection hu with hu; exact hu.symm⟩) (by simp) (by omega) (by omega)
      refine ⟨_, by simp only [execOp, Option.map_none, Option.map_some, e1, hy, Sem.run_bind, Int.natCast_zero, hr, Result.andThen_ok]; rfl, rfl, hU', _, _, rfl, fun L' hL' => ?_⟩
      rw [hL] at hL'; injection hL' with hL'; subst hL'
      exact .inl ⟨h5, by simp, rfl, rfl⟩
    · have hcc : c = L.cap := by
        rcases hcl with ⟨h, _⟩ | ⟨_, h⟩
        · rw [h5] at h; cases h
        · exact h
      injection h7 with e4 e5 e6
      subst e4 e6
      have hr := run_slice (P := P) (w := m.w) he hsz (A := some ⟨L.blk, o, none⟩) (len := n) (cap := L.cap - 0) (lo := 0) (hi := hi) (vl := none) (vh := some (.int k hi)) (by simp) (by simp) (fun u hu => ⟨k, by injection hu with hu; exact hu.symm⟩) (by simp) (by omega) (by omega)
      refine ⟨_, by simp only [execOp, Option.map_none, Option.map_some, e1, hy, Sem.run_bind, hr, Result.andThen_ok]; rfl, rfl, hU', _, _, rfl, fun L' hL' => ?_⟩
      rw [hL] at hL'; injection hL' with hL'; subst hL'
      refine .inr ⟨h5, by omega, o, ?_, h8⟩
      simp only [Nat.zero_mul, Nat.sub_zero]
      split
      · rfl
      · rw [pt_add, Nat.add_zero]
end
section
variable {ro : Option Nat} {P : Program} {nt p sz X : Nat} {t : TypeId} {l : List AV}
/-- A row has a capacity. -/
theorem St.capN {st : St} (hS : At st.S p (X, .row t sz l)) : St.To nt st fun st' => ∃ Z c u0, CapV c u0 ∧ l.length ≤ c ∧ st' = ⟨st.T, (Z, .tv (capK X c u0)) :: st.S⟩ := by
  rintro m0 a w ⟨m, N, W, rfl, h2, h3, h4⟩
  have hSp := hS.get
  rw [← show W.map (·.1) = st.S from h2, List.getElem?_map] at hSp
  cases hz : W[p]? with
  | none => rw [hz] at hSp; cases hSp
  | some z =>
    rw [hz] at hSp
    simp only [Option.map_some, Option.some.injEq] at hSp
    obtain ⟨z1, bs⟩ := z
    simp only at hSp
    subst hSp
    obtain ⟨hU, L, hL, hLs, hO⟩ := h3.obj _ (List.mem_of_getElem? hz)
    obtain ⟨c, u0, hcv, hlc, hvv⟩ : ∃ c u0, CapV c u0 ∧ l.length ≤ c ∧ VV m (.sl X 0 c) u0 [] := by
      rcases hO with ⟨h5, h6, _⟩ | ⟨h5, arr, bs', _, _, _, h6, _⟩
      · refine ⟨0, .slice none 0 0, ⟨none, rfl⟩, by rw [h6]; simp, rfl, hU, _, _, rfl, fun L' hL' => ?_⟩
        rw [hL] at hL'; injection hL' with hL'; subst hL'
        exact .inl ⟨h5, rfl, rfl, rfl⟩
      · refine ⟨L.cap, .slice (some ⟨L.blk, 0, none⟩) L.cap L.cap, ⟨_, rfl⟩, h6, rfl, hU, _, _, rfl, fun L' hL' => ?_⟩
        rw [hL] at hL'; injection hL' with hL'; subst hL'
        exact .inr ⟨h5, by omega, 0, by simp, fun _ => by simp⟩
    obtain ⟨G', hle⟩ := h3.note (capK X c u0) (fun v u h => by rw [h.1, h.2]; exact hvv) _ rfl
    exact ⟨⟨st.T, (N, .tv (capK X c u0)) :: st.S⟩, ⟨{ m with U := fun y => m.U y ∨ y = N }, N + 1, _, rfl, by rw [List.map_cons, show W.map (·.1) = st.S from h2], G', h4.mono hle⟩, N, c, u0, hcv, hlc, rfl⟩
theorem AWP.cap {cd : Code} {Q : Exit → St → Prop} {T : List (Nat × AV)} {S : List Slot} (X : Nat) (k : ∀ Z c u0, CapV c u0 → l.length ≤ c → AWP ro P nt cd Q ⟨T, (Z, .tv (capK X c u0)) :: S⟩) (hS : At S p (X, .row t sz l) := by exact At.f) : AWP ro P nt cd Q ⟨T, S⟩ := .ghost (St.capN hS) (by rintro _ ⟨Z, c, u0, h1, h2, rfl⟩; exact k Z c u0 h1 h2)
end
end Go.Proofs.Ytanokoededdceaa

namespace Go.Proofs.Ytanokoededdceaa
set_option linter.unusedVariables false
open Go.RowKit
section
variable {P : Program} {dst : Option Tmp} {ty t te tx : TypeId} {pos : String} {after : Array Edge} {g : Option (Nat × Bool)} {x y : Operand} {p q r sz X Y Z : Nat} {l : List AV}
theorem OpT.appz_grow {kq : IntKind} {qi : Int} {i k c by_ : Nat} {u0 : Value} {zl : List Value} {ag : Bool} (T : tRow P t = some (te, sz, by_)) (hz : tZ P te = some zl) (hag : ag = true ∨ zl.length = 1) (hzs : zl.length = sz) (htx : tInt P tx = true) (hq : qi = (k : Int)) (h0 : 0 < k) (hb : (i + k) * by_ ≤ 140737488355328) (hby : 0 < by_)
    (hc : CapV c u0) (hroom : c < i + k) (hi : i ≤ l.length) (hfr : FreeL l) :
    OpT P ⟨dst, .call ⟨.builtin .append, #[x, y], #[t, tx]⟩, ty, pos, after, g⟩ [(x, .sl X 0 i), (y, .prim (.int kq qi))] [(p, (X, .row te sz l)), (q, (Z, .tv (capK X c u0))), (r, (Y, .gone))] (.sl Y 0 (i + k)) [(r, (Y, .row te sz (l.take i ++ List.replicate k (zAV zl ag))))] := by
  subst hq
  obtain ⟨inf, z, ht, hti, hiz, h3, h4, hzs', hsz⟩ := tRow_spec T
  obtain ⟨i', zv, hi', hzv, hzl, ho⟩ := tZ_spec hz
  rw [hti] at hi'
  injection hi' with hi'
  subst hi'
  rw [hiz] at hzv
  injection hzv with hzv
  subst hzv
  obtain ⟨kk, hk⟩ := tInt_spec htx
  have hnm : i + k ≤ 140737488355328 := Nat.le_trans (Nat.le_mul_of_pos_right _ hby) hb
  intro nt m0 T0 S a w hx hS hd hr
  obtain ⟨m, N, W, rfl, h2, h5, h6⟩ := hr
  have h2' : W.map (·.1) = S := h2
  have hxa : VV m (.sl X 0 i) (a.eval x) [] := h6.ev (hx (x, .sl X 0 i) (by simp))
  have hya := (h6.ev (hx (y, .prim (.int kq (k : Int))) (by simp))).prim
  simp only at hya
  have hSp := hS (p, (X, .row te sz l)) (by simp)
  have hSq := hS (q, (Z, .tv (capK X c u0))) (by simp)
  have hSr := hS (r, (Y, .gone)) (by simp)
  rw [← h2', List.getElem?_map] at hSp hSq hSr
  cases hzp : W[p]? with
  | none => rw [hzp] at hSp; cases hSp
  | some zp =>
  cases hzq : W[q]? with
  | none => rw [hzq] at hSq; cases hSq
  | some zq =>
  cases hzr : W[r]? with
  | none => rw [hzr] at hSr; cases hSr
  | some zr =>
    rw [hzp] at hSp
    rw [hzq] at hSq
    rw [hzr] at hSr
    simp only [Option.map_some, Option.some.injEq] at hSp hSq hSr
    obtain ⟨zp1, bsp⟩ := zp
    obtain ⟨zq1, bsq⟩ := zq
    obtain ⟨zr1, bsr⟩ := zr
    simp only at hSp hSq hSr
    subst hSp hSq hSr
    have hO := h5.obj _ (List.mem_of_getElem? hzp)
    obtain ⟨hU, L, hL, hLs, hO⟩ := hO
    have hcl := cap_loc hc (h5.obj _ (List.mem_of_getElem? hzq)) hL
    obtain ⟨_, hU', A, d, e1, hs⟩ := hxa
    injection e1 with e1
    -- what the row holds
    obtain ⟨hdc, cs, hcs, hold⟩ : d = c ∧ ∃ cs, VCs m (l.take i) cs [] ∧ (Builtin.firstCells inf.size i (.slice A i d)).run P m.w.drew = .ok cs.toArray m.w.drew := by
      rcases hs L hL with ⟨h7, e2, _, e3⟩ | ⟨h7, h8, o, e2, h9⟩
      · injection e2 with e4 e5 e6
        subst e4 e6 e3
        refine ⟨?_, [], by simpa using ⟨rfl, rfl⟩, by exact run_firstCells_none m.w.drew _ 0 0 0⟩
        rcases hcl with ⟨_, h⟩ | ⟨h, _⟩
        · omega
        · rw [h7] at h; cases h
      · injection e2 with e4 e5 e6
        subst e4 e6
        have hcc : c = L.cap := by
          rcases hcl with ⟨h, _⟩ | ⟨_, h⟩
          · rw [h7] at h; cases h
          · exact h
        refine ⟨by omega, ?_⟩
        rcases hO with ⟨h10, _⟩ | ⟨hnil, arr, bs', hbs, hb2, harr, hlc, hcap, hw, hv⟩
        · rw [h7] at h10; cases h10
        · obtain ⟨p1, p2, e7, h11, h12⟩ := VCs.take hw hv (k := i) hi
          have h13 := (hfr.sub fun e he => List.mem_of_mem_take he).vcs h11
          rw [h13] at h11
          have ho : o = 0 := by rw [h9 (.inr rfl), Nat.zero_mul]
          subst ho
          have hsz0 : l.length * sz ≤ arr.toList.length := by rw [show arr.toList.length = arr.size from Array.length_toList, harr]; exact Nat.mul_le_mul_right _ hlc
          have hle : i * sz ≤ l.length * sz := Nat.mul_le_mul_right _ hi
          refine ⟨_, h11, run_firstCells_some (P := P) m.w.drew inf.size i _ i _ _ ?_ fun j v hj => ?_⟩
          · rw [h3]; simp only [List.length_take]; omega
          · rw [pt_add, Nat.zero_add]
            rw [List.getElem?_take] at hj
            split at hj
            · rw [List.getElem?_take] at hj
              split at hj
              · show m.w.cell? _ = _
                simp only [World.cell?, hb2]
                rw [← Array.getElem?_toList]; exact hj
              · cases hj
            · cases hj
    subst hdc
    have hgc : Builtin.nextslicecap (i + k) d * inf.bytes ≤ 281474976710656 := growslice_fits hroom (by rw [h4]; exact hb)
    have hkb : k * by_ ≤ (i + k) * by_ := Nat.mul_le_mul_right _ (by omega)
    have hrun := run_appz_grow (P := P) (ty := ty) m.w ht hk hti hiz (by rw [hzs', h3]) A i d cs hold kq k (by omega) (by rw [h4]; omega) (by rw [h3]; exact Nat.ne_of_gt (Nat.mul_pos h0 hsz)) hroom (by omega) hgc
    have hge := grownCap_ge m.w (i + k) d te
    have hcm := grownCap_le_maxLen m.w (i + k) d te (by unfold maxLen; omega)
    obtain ⟨G, hG⟩ : ∃ G, grownCap m.w (i + k) d te = G := ⟨_, rfl⟩
    rw [hG] at hrun hge hcm
    have hzc : ∀ j, (Builtin.zeroCells z.cells j).toList = (List.replicate j zl).flatten := fun j => by rw [Builtin.zeroCells, made_flat, hzl]
    have hwl : ∀ e ∈ l.take i, e.width = sz := fun e he => by
      rcases hO with ⟨_, h10, _⟩ | ⟨_, _, _, _, _, _, _, _, hw, _⟩
      · rw [h10] at he; simp at he
      · exact hw e (List.mem_of_mem_take he)
    have hti2 : (l.take i).length = i := by rw [List.length_take]; omega
    have hcl2 : cs.length = i * sz := by rw [VCs.len _ hcs, widths_of hwl, hti2]
    obtain ⟨R, hp1, hp2⟩ := perm_get hzr
    have hlen : (l.take i ++ List.replicate k (zAV zl ag)).length = i + k := by rw [List.length_append, hti2, List.length_replicate]
    obtain ⟨G', hle⟩ := Good.fresh (t := te) (sz := sz) (l := l.take i ++ List.replicate k (zAV zl ag)) (arr := (cs.toArray ++ Builtin.zeroCells z.cells k) ++ Builtin.zeroCells z.cells (G - (i + k))) (cap := G) (h5.perm hp1).drew (by
        simp only [Array.toList_append, hzc, hlen]
        rw [List.take_left' (by simp [hzs, hcl2, Nat.add_mul])]
        exact (VCs.mono (le_drew m) _ (fun _ _ => rfl) hcs).append (vcs_replicate _ (zAV_vc _ ho hag) k)) (by
        simp only [Array.size_append, size_zeroCells, hzs', List.size_toArray, hcl2]
        rw [← Nat.add_mul, ← Nat.add_mul]
        congr 1
        omega) (by rw [hlen]; exact hge) hcm (fun e he => by
        rcases List.mem_append.1 he with he | he
        · exact hwl e he
        · rw [List.eq_of_mem_replicate he, ← VC.len _ (zAV_vc m ho hag), hzs]) _ rfl
    unfold Oper.wp
    rw [run_builtin]
    simp only [builtin, List.map_toArray, List.map_cons, List.map_nil, e1, hya, Sem.run_bind, hrun, Result.andThen_ok, Sem.run_pure]
    refine ⟨_, N, W.set r ((Y, .row te sz (l.take i ++ List.replicate k (zAV zl ag))), [m.w.heap.size]), rfl, ?_, G'.perm (hp2 _).symm, ((h6.mono (le_drew m)).mono hle).put hd ?_⟩
    · rw [List.map_set, h2']; rfl
    · refine ⟨rfl, .inr rfl, _, _, rfl, fun L' hL' => ?_⟩
      simp only [if_true, Option.some.injEq] at hL'
      subst hL'
      exact .inr ⟨rfl, by simpa using hge, 0, by simp, fun _ => by simp⟩
end
end Go.Proofs.Ytanokoededdceaa

namespace Go.Proofs.Ytanokoededdceaa
set_option linter.unusedVariables false
open Go.RowKit
section
variable {P : Program} {dst : Option Tmp} {ty t te tx : TypeId} {pos : String} {after : Array Edge} {g : Option (Nat × Bool)} {x y : Operand} {p q r sz X Y Z V : Nat} {l l2 : List AV}
theorem OpT.overlaps {f : FuncId} {fn : Func} {tR : TypeId} {ats : Array TypeId} {m j k : Nat} (hf : P.funcs[f]? = some fn) (hname : (fn.name == "runtime.NumGoroutine") = false) (hb : fn.body.isNone = true) (hn : Extern.findNext fn = none) (hx0 : Extern.find fn = some (Extern.SlicesOverlaps.overlaps #[t, t] #[tR]))
    (he : tElem P t = some te) (hsz : tSz P te = some sz) (h0 : 0 < sz) (hm : 0 < m) (hk : 0 < k) (hpq : p ≠ q) :
    OpT P ⟨dst, .call ⟨.value (.func f), #[x, y], ats⟩, ty, pos, after, g⟩ [(x, .sl V 0 m), (y, .sl X j k)] [(p, (V, .row te sz l2)), (q, (X, .row te sz l))] (.prim (.bool false)) [] := by
  intro nt m0 T S a w hx hS hd hr
  obtain ⟨m1, N, W, rfl, h2, h3, h4⟩ := hr
  have h2' : W.map (·.1) = S := h2
  have hxa : VV m1 (.sl V 0 m) (a.eval x) [] := h4.ev (hx (x, .sl V 0 m) (by simp))
  have hya : VV m1 (.sl X j k) (a.eval y) [] := h4.ev (hx (y, .sl X j k) (by simp))
  have hSp := hS (p, (V, .row te sz l2)) (by simp)
  have hSq := hS (q, (X, .row te sz l)) (by simp)
  rw [← h2', List.getElem?_map] at hSp hSq
  cases hzp : W[p]? with
  | none => rw [hzp] at hSp; cases hSp
  | some zp =>
  cases hzq : W[q]? with
  | none => rw [hzq] at hSq; cases hSq
  | some zq =>
    rw [hzp] at hSp
    rw [hzq] at hSq
    simp only [Option.map_some, Option.some.injEq] at hSp hSq
    obtain ⟨zp1, bsp⟩ := zp
    obtain ⟨zq1, bsq⟩ := zq
    simp only at hSp hSq
    subst hSp hSq
    obtain ⟨R, hp1, _⟩ := perm_get2 hpq hzp hzq
    have G := h3.perm hp1
    have hown := G.own
    obtain ⟨_, L, hL, hLs, hO⟩ := G.obj _ (List.mem_cons_self ..)
    obtain ⟨_, L2, hL2, hLs2, hO2⟩ := G.obj ((X, .row te sz l), bsq) (by simp)
    obtain ⟨_, _, A, d, e1, hs⟩ := hxa
    obtain ⟨_, _, A2, d2, e2, hs2⟩ := hya
    injection e1 with e1
    injection e2 with e2
    rcases hs L hL with ⟨_, _, _, h⟩ | ⟨n1, c1, o1, v1, _⟩
    · omega
    rcases hs2 L2 hL2 with ⟨_, _, _, h⟩ | ⟨n2, c2, o2, v2, _⟩
    · omega
    rcases hO with ⟨h, _⟩ | ⟨_, arr, b1, rfl, hb1, hsz1, _⟩
    · rw [n1] at h; cases h
    rcases hO2 with ⟨h, _⟩ | ⟨_, arr2, b2, rfl, hb2, hsz2, _⟩
    · rw [n2] at h; cases h
    have hne : L.blk ≠ L2.blk := by
      intro e
      rw [own_cons, own_cons] at hown
      simp [e] at hown
    injection v1 with v1 _ _
    injection v2 with v2 _ _
    subst v1 v2
    have hrun := Lib.run_overlaps_apart (P := P) m1.w t tR te (tElem_spec he) sz (fun w => by
      unfold tSz at hsz
      cases hq : P.info? te with
      | none => rw [hq] at hsz; cases hsz
      | some i => rw [hq] at hsz; injection hsz with hsz; simp [sizeOf, typeInfo, hq, hsz, Sem.run_bind, Sem.run_pure, Result.andThen_ok]) ⟨L.blk, o1, none⟩ ⟨L2.blk, o2, none⟩ m d k d2 hne te te arr.size arr2.size (by simp [World.shape?, hb1]) (by simp [World.shape?, hb2]) (by rw [hsz2]; exact Nat.ne_of_gt (Nat.mul_pos (by omega) h0)) (by simp [World.frozen?, hb1]) (by simp [World.frozen?, hb1])
    have hcall := run_callFunc_extern (P := P) hf hname hb hn hx0 #[a.eval x, a.eval y] m1.w
    rw [e1, e2, hrun] at hcall
    have hexec : (execOp a.eval ⟨dst, .call ⟨.value (.func f), #[x, y], ats⟩, ty, pos, after, g⟩).run P m1.w = .ok (.value (.bool false)) m1.w := by
      have ha : ∀ f, a.eval (.func f) = .func (.func f) #[] #[] := fun _ => rfl
      simp [execOp, resolve, ha, Deferred.ofValue, invoke, e1, e2, hcall, Result.andThen_ok]
    unfold Oper.wp
    rw [hexec]
    exact ⟨m1, N, W, rfl, h2, h3, h4.put hd (vv_prim _)⟩
end
section
variable {P : Program} {dst : Option Tmp} {ty t te tx ty2 : TypeId} {pos : String} {after : Array Edge} {g : Option (Nat × Bool)} {x y : Operand} {p q r sz X Y Z V by_ : Nat} {l l2 : List AV} {T : List (Nat × AV)} {S : List Slot} {c : Option (List Bool)} {k k' k0 : IntKind} {qi qj : Int}
theorem W.copyO {j a i b : Nat} (n : Nat) [TEl P t te] [TSize P te sz] (hx : Rd c T x (.sl X j a)) (hy : Rd c T y (.sl Y i b)) (hSp : At S p (X, .row te sz l)) (hSq : At S q (Y, .row te sz l2)) (hpq : Nat.beq p q = false) (ha : 0 < a) (hb : 0 < b) (hk : n = min b a) (hj : j ≤ l.length) (hi : i + n ≤ l2.length) (hfr : FreeL l) (hfr2 : FreeL l2) (hw2 : ∀ e ∈ l2, e.width = sz) :
    Stp c P ⟨dst, .call ⟨.builtin .copy, #[x, y], #[t, t]⟩, ty, pos, after, g⟩ T S [(x, .sl X j a), (y, .sl Y i b)] [(p, (X, .row te sz l)), (q, (Y, .row te sz l2))] (.prim (.int .i64 n)) [(p, (X, .row te sz (l.take j ++ (l2.drop i).take n ++ l.drop (j + n))))] :=
  ⟨.copyO n TEl.h TSize.h ha hb hk hj hi hfr hfr2 hw2 (Nat.ne_of_beq_eq_false hpq), .cons hx (.cons hy .nil), .cons hSp (.cons hSq .nil)⟩
theorem W.copyS {j a i b : Nat} (n : Nat) [TEl P t te] [TSize P te sz] (hx : Rd c T x (.sl X j a)) (hy : Rd c T y (.sl X i b)) (hSp : At S p (X, .row te sz l)) (ha : 0 < a) (hb : 0 < b) (hk : n = min b a) (hj : j ≤ l.length) (hi : i + n ≤ l.length) (hfr : FreeL l) (hw2 : ∀ e ∈ l, e.width = sz) :
    Stp c P ⟨dst, .call ⟨.builtin .copy, #[x, y], #[t, t]⟩, ty, pos, after, g⟩ T S [(x, .sl X j a), (y, .sl X i b)] [(p, (X, .row te sz l))] (.prim (.int .i64 n)) [(p, (X, .row te sz (l.take j ++ (l.drop i).take n ++ l.drop (j + n))))] :=
  ⟨.copyS n TEl.h TSize.h ha hb hk hj hi hfr hw2, .cons hx (.cons hy .nil), .cons hSp .nil⟩
theorem W.cap {n cc : Nat} {u0 : Value} [TEl P t te] (hc : CapV cc u0) (hx : Rd c T x (.sl X 0 n)) (hSp : At S p (X, .row te sz l)) (hSq : At S q (Z, .tv (capK X cc u0))) :
    Stp c P ⟨dst, .call ⟨.builtin .cap, #[x], #[t]⟩, ty, pos, after, g⟩ T S [(x, .sl X 0 n)] [(p, (X, .row te sz l)), (q, (Z, .tv (capK X cc u0)))] (.prim (.int .i64 cc)) [] :=
  ⟨.cap TEl.h hc, .cons hx .nil, .cons hSp (.cons hSq .nil)⟩
theorem W.sliceC {n cc : Nat} {u0 : Value} (hi : Nat) [TEl P t te] [TSize P te sz] (hc : CapV cc u0) (hx : Rd c T x (.sl X 0 n)) (hy : Rd c T y (.prim (.int k qi))) (hSp : At S p (X, .row te sz l)) (hSq : At S q (Z, .tv (capK X cc u0))) (hq : qi = (hi : Int)) (hh : hi ≤ cc) :
    Stp c P ⟨dst, .slice t x none (some y) none, ty, pos, after, g⟩ T S [(x, .sl X 0 n), (y, .prim (.int k qi))] [(p, (X, .row te sz l)), (q, (Z, .tv (capK X cc u0)))] (.sl X 0 hi) [] :=
  ⟨.slice_cap TEl.h TSize.h hc hq hh, .cons hx (.cons hy .nil), .cons hSp (.cons hSq .nil)⟩
theorem W.appzG {i cc : Nat} {u0 : Value} {zl : List Value} {ag : Bool} (n : Nat) [TRo P t te sz by_] [TZe P te zl] [TAg P te ag] (hc : CapV cc u0) (hx : Rd c T x (.sl X 0 i)) (hy : Rd c T y (.prim (.int k qi))) (hSp : At S p (X, .row te sz l)) (hSq : At S q (Z, .tv (capK X cc u0))) (hSr : At S r (Y, .gone)) (hq : qi = (n : Int)) (hag : ag = true ∨ zl.length = 1) (hzs : zl.length = sz) (htx : tInt P tx = true) (h0 : 0 < n) (hb : (i + n) * by_ ≤ 140737488355328) (hby : 0 < by_) (hroom : cc < i + n) (hi : i ≤ l.length) (hfr : FreeL l) :
    Stp c P ⟨dst, .call ⟨.builtin .append, #[x, y], #[t, tx]⟩, ty, pos, after, g⟩ T S [(x, .sl X 0 i), (y, .prim (.int k qi))] [(p, (X, .row te sz l)), (q, (Z, .tv (capK X cc u0))), (r, (Y, .gone))] (.sl Y 0 (i + n)) [(r, (Y, .row te sz (l.take i ++ List.replicate n (zAV zl ag))))] :=
  ⟨.appz_grow TRo.h TZe.h hag hzs htx hq h0 hb hby hc hroom hi hfr, .cons hx (.cons hy .nil), .cons hSp (.cons hSq (.cons hSr .nil))⟩
theorem W.over {f : FuncId} {fn : Func} {tR : TypeId} {ats : Array TypeId} {m j n : Nat} [TEl P t te] [TSize P te sz] (hf : P.funcs[f]? = some fn) (hname : (fn.name == "runtime.NumGoroutine") = false) (hb : fn.body.isNone = true) (hn : Extern.findNext fn = none) (hx0 : Extern.find fn = some (Extern.SlicesOverlaps.overlaps #[t, t] #[tR]))
    (hx : Rd c T x (.sl V 0 m)) (hy : Rd c T y (.sl X j n)) (hSp : At S p (V, .row te sz l2)) (hSq : At S q (X, .row te sz l)) (hpq : Nat.beq p q = false) (h0 : 0 < sz) (hm : 0 < m) (hk : 0 < n) :
    Stp c P ⟨dst, .call ⟨.value (.func f), #[x, y], ats⟩, ty, pos, after, g⟩ T S [(x, .sl V 0 m), (y, .sl X j n)] [(p, (V, .row te sz l2)), (q, (X, .row te sz l))] (.prim (.bool false)) [] :=
  ⟨.overlaps hf hname hb hn hx0 TEl.h TSize.h h0 hm hk (Nat.ne_of_beq_eq_false hpq), .cons hx (.cons hy .nil), .cons hSp (.cons hSq .nil)⟩
theorem W.shr (n : Nat) (hx : Rd c T x (.prim (.int k qi))) (hy : Rd c T y (.prim (.int k' qj))) (hj : qj = (n : Int)) (hn : n ≤ k.bits) :
    Stp c P ⟨dst, .binOp .shr t x y ty2, ty, pos, after, g⟩ T S [(x, .prim (.int k qi)), (y, .prim (.int k' qj))] [] (.prim (.int k (qi.fdiv (2 ^ n)))) [] := ⟨.shr hj hn, .cons hx (.cons hy .nil), .nil⟩
theorem W.conv (k0 k' : IntKind) {t2 : TypeId} (h1 : P.underlying t = some (.int k0)) (h2 : P.underlying t2 = some (.int k')) (hx : Rd c T x (.prim (.int k qi))) (hw : k'.wrap qi = qi) :
    Stp c P ⟨dst, .convert t t2 x, ty, pos, after, g⟩ T S [(x, .prim (.int k qi))] [] (.prim (.int k' qi)) [] := ⟨.conv h1 h2 hw, .cons hx .nil, .nil⟩
end
end Go.Proofs.Ytanokoededdceaa

namespace Go.Proofs.Ytanokoededdceaa
set_option linter.unusedVariables false
set_option linter.unusedSimpArgs false
open Go.RowKit
section
variable {P : Program} {m0 m : Mem} {N X Y : Nat} {R : Zs} {ex : List Nat} {t te ty t2 : TypeId} {sz by_ : Nat} {l ls : List AV} {dst : Option Tmp} {pos : String} {after : Array Edge} {g : Option (Nat × Bool)} {x y z u : Operand} {p q : Nat}
/-- An append onto nil: a new row. -/
theorem OpT.app_nil {t' : TypeId} (T : tRow P t = some (te, sz, by_)) (hb : ls.length * by_ ≤ 140737488355328) (hm : ls.length ≤ maxLen) : OpT P ⟨dst, .call ⟨.builtin .append, #[x, y], #[t, t]⟩, ty, pos, after, g⟩ [(x, .prim (.slice none 0 0)), (y, .lst false t' sz ls)] [(q, (Y, .gone))] (.sl Y 0 ls.length) [(q, (Y, .row te sz ls))] := by
  intro nt m0 T' S a w hx hS hd hr
  obtain ⟨m1, N1, Z1, rfl, h2, h3, h4⟩ := hr
  have h2' : Z1.map (·.1) = S := h2
  have hxa := (h4.ev (hx (x, .prim (.slice none 0 0)) (by simp))).prim
  have hya : VV m1 (.lst false t' sz ls) (a.eval y) [] := h4.ev (hx (y, .lst false t' sz ls) (by simp))
  have hSq := hS (q, (Y, .gone)) (by simp)
  rw [← h2', List.getElem?_map] at hSq
  cases hz : Z1[q]? with
  | none => rw [hz] at hSq; cases hSq
  | some z =>
    rw [hz] at hSq
    simp only [Option.map_some, Option.some.injEq] at hSq
    obtain ⟨z1, bsY⟩ := z
    simp only at hSq
    subst hSq
    obtain ⟨R, hp1, hp2⟩ := perm_get hz
    obtain ⟨m, hmw, G, hle0, hvn⟩ := Good.adopt (h3.perm hp1) te sz
    have G' := G.perm (List.Perm.swap ..)
    have hya2 : VV m (.lst false t' sz ls) (a.eval y) [] := hya.mono hle0 (by simp)
    have hvn' : VV m (.sl N1 0 ([] : List AV).length) (.slice none 0 0) [] := hvn
    obtain ⟨xs, bs0, hown, hv, hwl, hbs⟩ := ORel.owns (G'.obj ((N1, .row te sz []), []) (by simp)) hvn'
    obtain ⟨_, A, c, e1, hkc, hws, hrd⟩ := hya2
    injection e1 with e1
    obtain ⟨news, hnl, hnc, hnv⟩ : ∃ news : List Value, news.length = ls.length * sz ∧ (0 < ls.length → ∃ b off, A = some ⟨b, off, none⟩ ∧ ∀ j u, news[j]? = some u → m.w.cell? ⟨b, off + j, none⟩ = some u) ∧ VCs m ls news [] := by
      rcases Nat.eq_zero_or_pos ls.length with h0 | h0
      · have : ls = [] := List.eq_nil_of_length_eq_zero h0
        subst this
        exact ⟨[], by simp, fun h => absurd h (by simp), VCs.nil⟩
      · obtain ⟨b, off, arr, tt, r, hA, hF, hb, hc⟩ := hrd h0
        refine ⟨_, by rw [VCs.len _ hc, widths_of hws], fun _ => ⟨b, off, hA, fun j u hj => ?_⟩, hc⟩
        rw [List.getElem?_take] at hj
        split at hj
        · rw [List.getElem?_drop] at hj
          simp only [World.cell?, hb]
          simpa using hj
        · cases hj
    obtain ⟨v', w', hrun, hown', hg, hat⟩ := run_append_any T m.w ty hown hkc hnl hnc (VCs.ones _ hnv) (by simpa using hb) (by simpa using hm)
    obtain ⟨m', bs', hw', G2, hle, hv'⟩ := Good.app G' hv hnv (fun e he => by rcases List.mem_append.1 he with h | h; exact hwl e h; exact hws e h) hbs hown' hg hat
    have hex : (execOp a.eval ⟨dst, .call ⟨.builtin .append, #[x, y], #[t, t]⟩, ty, pos, after, g⟩).run P m1.w = .ok (.value v') w' := by
      rw [run_builtin, ← hmw]
      simp only [builtin, List.map_toArray, List.map_cons, List.map_nil, e1, show a.eval x = _ from hxa, Sem.run_bind, hrun, Result.andThen_ok, Sem.run_pure]
    unfold Oper.wp
    rw [hex]
    have G3 := G2.sub (List.sublist_cons_self _ _)
    simp only [List.length_nil, Nat.zero_add, List.nil_append] at G3 hv'
    refine ⟨m', N1 + 1, _, hw', ?_, G3.perm (hp2 _).symm, (h4.mono (hle0.trans hle)).put hd hv'⟩
    rw [List.map_set, h2']; rfl
/-- What the elements of a row own is frozen. -/
theorem St.frzRow {nt : Nat} {st : St} {l' : List AV} (he : AV.frzs l = l') (hS : At st.S p (X, .row t sz l)) : St.To nt st fun st' => st' = ⟨st.T, st.S.set p (X, .row t sz l')⟩ := by
  subst he
  intro m0 a w hr
  obtain ⟨m, N, Z, rfl, h2, h3, h4⟩ := hr
  obtain ⟨bs, hz⟩ := hS.z h2
  obtain ⟨R, hp1, hp2⟩ := perm_get hz
  have G := h3.perm hp1
  obtain ⟨hU, L, hL, hLs, hO⟩ := G.obj _ (List.mem_cons_self ..)
  rcases hO with ⟨h5, h6, h7⟩ | ⟨hnil, arr, bs', hbs, hb, harr, hlc, hcap, hw, hv⟩
  · have h6' : l = [] := h6
    subst h6'
    refine ⟨⟨st.T, st.S.set p (X, .row t sz (AV.frzs []))⟩, ⟨m, N, Z, rfl, ?_, h3, h4⟩, rfl⟩
    show Z.map (·.1) = st.S.set p (X, .row t sz [])
    rw [set_self (by rw [← h2, List.getElem?_map, hz]; rfl)]
    exact h2
  · have hbs' : bs = L.blk :: bs' := hbs
    subst hbs'
    have G1 : Good m0 m N (((X, .gone), []) :: R) ([] : List Nat) ∨ True := .inr trivial
    clear G1
    have hp : (Zs.own (((X, AO.row t sz l), L.blk :: bs') :: R) ++ []).Perm (Zs.own (((X, AO.row t sz (AV.frzs l)), [L.blk]) :: R) ++ bs') := by
      simp only [own_cons, List.append_nil]
      rw [List.cons_append, List.singleton_append, List.cons_append]
      exact List.Perm.cons _ List.perm_append_comm
    have hnd := hp.nodup_iff.1 G.own
    have hgb : L.blk ∉ bs' := by
      intro h
      have h1 := List.nodup_append.1 hnd
      exact h1.2.2 L.blk (by simp [own_cons]) L.blk h rfl
    have hle : m.Le { m with F := fun b => m.F b ∨ b ∈ bs' } := ⟨fun _ h => h, fun _ _ _ h => h, fun b hb => ⟨.inl hb, rfl⟩⟩
    have hO' : ORel { m with F := fun b => m.F b ∨ b ∈ bs' } X (.row t sz (AV.frzs l)) [L.blk] :=
      ⟨hU, L, hL, hLs, .inr ⟨hnil, arr, [], rfl, hb, harr, by rw [frzs_len]; exact hlc, hcap, fun e he => by
        rw [frzs_map] at he
        obtain ⟨e', he', rfl⟩ := List.mem_map.1 he
        rw [frz_width]; exact hw e' he', by rw [frzs_len]; exact VCs.frz hle l (fun b hb => ⟨.inr hb, rfl⟩) hv⟩⟩
    have hblk : ∀ b ∈ Zs.own (((X, AO.row t sz (AV.frzs l)), [L.blk]) :: R) ++ bs', b < m.w.heap.size ∧ ¬ m.F b := fun b hb => G.blk b (hp.mem_iff.2 hb)
    have G2 : Good m0 { m with F := fun b => m.F b ∨ b ∈ bs' } N (((X, .row t sz (AV.frzs l)), [L.blk]) :: R) [] := by
      refine ⟨fun z hz' => ?_, ?_, fun b hb' => ?_, fun b hb' => ?_, G.keys, G.keyN, G.usedN, G.le.trans hle, G.os, G.tape, G.output, G.size⟩
      · rcases List.mem_cons.1 hz' with rfl | hz'
        · exact hO'
        · refine ORel.mono hle (fun hg => ?_) (fun L h => h) (fun b hb => rfl) (G.obj z (List.mem_cons_of_mem _ hz'))
          have := G.obj z (List.mem_cons_of_mem _ hz')
          rw [hg] at this
          exact this.2
      · rw [List.append_nil]
        exact (List.nodup_append.1 hnd).1
      · rw [List.append_nil] at hb'
        obtain ⟨k1, k2⟩ := hblk b (List.mem_append_left _ hb')
        refine ⟨k1, ?_⟩
        rintro (h | h)
        · exact k2 h
        · exact (List.nodup_append.1 hnd).2.2 b hb' b h rfl
      · rcases hb' with h | h
        · exact G.frz b h
        · exact (hblk b (List.mem_append_right _ h)).1
    refine ⟨⟨st.T, st.S.set p (X, .row t sz (AV.frzs l))⟩, ⟨{ m with F := fun b => m.F b ∨ b ∈ bs' }, N, Z.set p ((X, .row t sz (AV.frzs l)), [L.blk]), rfl, ?_, G2.perm (hp2 _).symm, h4.mono hle⟩, rfl⟩
    rw [List.map_set]
    show (Z.map (·.1)).set p _ = _
    rw [show Z.map (·.1) = st.S from h2]
end
end Go.Proofs.Ytanokoededdceaa

namespace Go.Proofs.Ytanokoededdceaa
set_option linter.unusedVariables false
set_option linter.unusedSimpArgs false
open Go.RowKit
section
variable {P : Program} {ro : Option Nat} {nt : Nat} {ops : Array Oper} {Q : Exit → St → Prop} {rest : List Oper} {T : List (Nat × AV)} {S : List Slot} {ty t te t2 t' ty2 : TypeId} {pos : String} {after : Array Edge} {dst : Option Tmp} {c : Option (List Bool)} {g : Option (Nat × Bool)} {x y z u : Operand} {X Y p q sz by_ : Nat} {l ls : List AV} {cd : Code}
theorem W.appN [TRo P t te sz by_] (hb : ls.length * by_ ≤ 140737488355328) (hm : ls.length ≤ maxLen) (hx : Rd c T x (.prim (.slice none 0 0))) (hy : Rd c T y (.lst false t' sz ls)) (hSq : At S q (Y, .gone)) :
    Stp c P ⟨dst, .call ⟨.builtin .append, #[x, y], #[t, t]⟩, ty, pos, after, g⟩ T S [(x, .prim (.slice none 0 0)), (y, .lst false t' sz ls)] [(q, (Y, .gone))] (.sl Y 0 ls.length) [(q, (Y, .row te sz ls))] :=
  ⟨.app_nil TRo.h hb hm, .cons hx (.cons hy .nil), .cons hSq .nil⟩
theorem AWP.frzRow (X : Nat) (l' : List AV) (he : AV.frzs l = l') (k : AWP ro P nt cd Q ⟨T, S.set p (X, .row t sz l')⟩) (hS : At S p (X, .row t sz l) := by exact At.f) : AWP ro P nt cd Q ⟨T, S⟩ :=
  .ghost (St.frzRow (st := ⟨T, S⟩) he hS) fun st' e => by subst e; exact k
end
end Go.Proofs.Ytanokoededdceaa

namespace Go.Proofs.Ytanokoededdceaa
set_option linter.unusedVariables false
section
variable {ro : Option Nat} {P : Program} {nt : Nat} {ops : Array Oper} {Q : Exit → St → Prop} {rest : List Oper} {T : List (Nat × AV)} {S : List Slot} {ty t te : TypeId} {sz : Nat} {x y : Operand} {pos : String} {after : Array Edge} {dst : Option Tmp}
end
end Go.Proofs.Ytanokoededdceaa

namespace Go.Proofs.Ytanokoededdceaa
set_option linter.unusedVariables false
theorem Ends.cv {P : Program} {res : List ResultVar} {Sf : List Slot} {st : St} {r : AV} {S1 : List Slot} (rs rs' : List AV) (c : CVs st.S rs rs' S1) (e : packR rs' = r := by rfl) (h : ResVs P st res rs := by (repeat (first | exact .nil | refine .cons (.tmp (by rfl)) (by rfl) ?_ | refine .cons (.cell (by rfl) (by exact At.f) TAg.h TSize.h (by exact rfl) (by exact rfl)) (by rfl) ?_))) (hS : Sf.Sublist S1 := by exact Sub.f) : Ends P res Sf (fun r' S' => r' = r ∧ S' = []) st := ⟨rs, rs', S1, [], h, c, hS, e, rfl⟩
/-- The results as they stand, and the objects S'. -/
theorem Ends.sp {P : Program} {res : List ResultVar} {Sf : List Slot} {Q : AV → List Slot → Prop} {st : St} (rs : List AV) (S' : List Slot) (e : Q (packR rs) S') (h : ResVs P st res rs := by (repeat (first | exact .nil | refine .cons (.tmp (by rfl)) (by rfl) ?_ | refine .cons (.cell (by rfl) (by exact At.f) TAg.h TSize.h (by exact rfl) (by exact rfl)) (by rfl) ?_))) (hS : (S' ++ Sf).Sublist st.S := by exact Sub.f) : Ends P res Sf Q st := ⟨rs, rs, st.S, S', h, CVs_id _ _, hS, e⟩
section
variable {P : Program} {dst : Option Tmp} {ty t ty2 : TypeId} {pos : String} {after : Array Edge} {g : Option (Nat × Bool)} {T : List (Nat × AV)} {S : List Slot} {c : Option (List Bool)} {x y : Operand} {i j : Int}
theorem W.mulE (k : Int) (h : i * j = k) (hr : -9223372036854775808 ≤ k ∧ k ≤ 9223372036854775807) (hx : Rd c T x (.prim (.int .i64 i))) (hy : Rd c T y (.prim (.int .i64 j))) : Stp c P ⟨dst, .binOp .mul t x y ty2, ty, pos, after, g⟩ T S [(x, .prim (.int .i64 i)), (y, .prim (.int .i64 j))] [] (.prim (.int .i64 k)) [] := h ▸ W.mul hx hy (h ▸ hr)
theorem W.quoN (a b : Nat) (k : Nat) (hi : i = (a : Int)) (hj : j = (b : Int)) (h0 : 0 < b) (h : a / b = k) (hr : a ≤ 9223372036854775807) (hx : Rd c T x (.prim (.int .i64 i))) (hy : Rd c T y (.prim (.int .i64 j))) : Stp c P ⟨dst, .binOp .quo t x y ty2, ty, pos, after, g⟩ T S [(x, .prim (.int .i64 i)), (y, .prim (.int .i64 j))] [] (.prim (.int .i64 (k : Int))) [] := by
  have h1 : IntKind.i64.wrap (i.tdiv j) = (k : Int) := by
    subst hi hj h
    rw [← Int.ofNat_tdiv]
    have := Nat.div_le_self a b
    generalize a / b = q at this ⊢
    exact wrap_id (by omega) (by omega)
  exact h1 ▸ W.quoW hx hy (by omega)
end
end Go.Proofs.Ytanokoededdceaa

namespace Go.Proofs.Ytanokoededdceaa
set_option linter.unusedVariables false
abbrev uA (x : UInt64) : AV := .prim (.int .u64 ((x.toNat : Nat) : Int))
section
variable {P : Program} {dst : Option Tmp} {ty t ty2 : TypeId} {pos : String} {after : Array Edge} {g : Option (Nat × Bool)} {T : List (Nat × AV)} {S : List Slot} {c : Option (List Bool)} {x y : Operand} {i j : Int} {k k' : IntKind} {a b : UInt64}
theorem OpT.res {o : Oper} {xs : List (Operand × AV)} {rS wS : List (Nat × Slot)} {r r' : Int} (h : OpT P o xs rS (.prim (.int k r)) wS) (e : r = r') : OpT P o xs rS (.prim (.int k r')) wS := e ▸ h
theorem u64_lt (a : UInt64) : a.toNat < 18446744073709551616 := a.toNat_lt
theorem OpT.bitsI {bop : BinOp} (hb : bop = .and ∨ bop = .or ∨ bop = .xor) : OpT P ⟨dst, .binOp bop t x y ty2, ty, pos, after, g⟩ [(x, .prim (.int k i)), (y, .prim (.int k j))] [] (.prim (.int k (bits bop k i j))) [] :=
  run_binOp rfl (fun w => by
    rcases hb with rfl | rfl | rfl
    · rw [binOp_and, intBits_and]; rfl
    · rw [binOp_or, intBits_or]; rfl
    · rw [binOp_xor, intBits_xor]; rfl) (.inl (by rcases hb with rfl | rfl | rfl <;> exact ⟨by simp, by simp⟩))
theorem W.xorU (hx : Rd c T x (uA a)) (hy : Rd c T y (uA b)) : Stp c P ⟨dst, .binOp .xor t x y ty2, ty, pos, after, g⟩ T S [(x, uA a), (y, uA b)] [] (uA (a ^^^ b)) [] := by
  have h := u64_xor_nat a.toNat b.toNat (u64_lt a) (u64_lt b)
  rw [← UInt64.toNat_xor] at h
  exact ⟨.res (OpT.bitsI (.inr (.inr rfl))) h, .cons hx (.cons hy .nil), .nil⟩
theorem wrapU (n : Int) : IntKind.u64.wrap n = n % 18446744073709551616 := IntKind.wrap_u64 n
theorem W.addU (hx : Rd c T x (uA a)) (hy : Rd c T y (uA b)) : Stp c P ⟨dst, .binOp .add t x y ty2, ty, pos, after, g⟩ T S [(x, uA a), (y, uA b)] [] (uA (a + b)) [] := by
  have h : IntKind.u64.wrap ((a.toNat : Int) + b.toNat) = (((a + b).toNat : Nat) : Int) := by
    rw [wrapU, UInt64.toNat_add]; omega
  exact ⟨.res (OpT.int_arith_add) h, .cons hx (.cons hy .nil), .nil⟩
theorem W.mulU (hx : Rd c T x (uA a)) (hy : Rd c T y (uA b)) : Stp c P ⟨dst, .binOp .mul t x y ty2, ty, pos, after, g⟩ T S [(x, uA a), (y, uA b)] [] (uA (a * b)) [] := by
  have h : IntKind.u64.wrap ((a.toNat : Int) * b.toNat) = (((a * b).toNat : Nat) : Int) := by
    rw [wrapU, UInt64.toNat_mul, Int.natCast_emod, Int.natCast_mul]; rfl
  exact ⟨.res (OpT.int_arith_mul) h, .cons hx (.cons hy .nil), .nil⟩
theorem W.shrU (n : Nat) (hn : n < 64) (hx : Rd c T x (uA a)) (hy : Rd c T y (.prim (.int k' j))) (hj : j = (n : Int)) : Stp c P ⟨dst, .binOp .shr t x y ty2, ty, pos, after, g⟩ T S [(x, uA a), (y, .prim (.int k' j))] [] (uA (a >>> UInt64.ofNat n)) [] := by
  have h : (a.toNat : Int).fdiv (2 ^ n) = (((a >>> UInt64.ofNat n).toNat : Nat) : Int) := by
    rw [UInt64.toNat_shiftRight, UInt64.toNat_ofNat', show n % 2 ^ 64 % 64 = n by omega, Nat.shiftRight_eq_div_pow, Int.fdiv_eq_ediv_of_nonneg _ (Int.pow_nonneg (by decide)), Int.natCast_ediv, Int.natCast_pow]; rfl
  exact ⟨.res (OpT.shr hj (by show n ≤ 64; omega)) h, .cons hx (.cons hy .nil), .nil⟩
theorem OpT.convW {t2 : TypeId} {k0 : IntKind} (h1 : P.underlying t = some (.int k0)) (h2 : P.underlying t2 = some (.int k')) : OpT P ⟨dst, .convert t t2 x, ty, pos, after, g⟩ [(x, .prim (.int k i))] [] (.prim (.int k' (k'.wrap i))) [] :=
  .pure_ fun m a hx _ => by
    have e1 := (hx (x, .prim (.int k i)) (by simp)).prim
    refine ⟨.int k' (k'.wrap i), ?_, vv_prim _ rfl⟩
    simp only at e1
    simp [execOp, e1, convert, run_underlying h1, run_underlying h2, Conv.intToInt, Sem.run_bind, Sem.run_pure, Result.andThen_ok]
theorem W.convW {t2 : TypeId} (k0 k' : IntKind) (r : Int) (h1 : P.underlying t = some (.int k0)) (h2 : P.underlying t2 = some (.int k')) (hw : k'.wrap i = r) (hx : Rd c T x (.prim (.int k i))) : Stp c P ⟨dst, .convert t t2 x, ty, pos, after, g⟩ T S [(x, .prim (.int k i))] [] (.prim (.int k' r)) [] := ⟨.res (OpT.convW h1 h2) hw, .cons hx .nil, .nil⟩
theorem wrapU_ofInt (i : Int) : IntKind.u64.wrap i = (((UInt64.ofInt i).toNat : Nat) : Int) := by
  rw [wrapU]
  unfold UInt64.ofInt
  rw [UInt64.toNat_ofNat']
  omega
/-- Any whole number as an unsigned one. -/
theorem W.toU {t2 : TypeId} (k0 : IntKind) (h1 : P.underlying t = some (.int k0)) (h2 : P.underlying t2 = some (.int .u64)) (hx : Rd c T x (.prim (.int k i))) : Stp c P ⟨dst, .convert t t2 x, ty, pos, after, g⟩ T S [(x, .prim (.int k i))] [] (uA (UInt64.ofInt i)) [] := W.convW k0 .u64 _ h1 h2 (wrapU_ofInt i) hx
/-- A number as an unsigned one, told by its value. -/
theorem W.toUN {t2 : TypeId} (k0 : IntKind) (n : Nat) (hi : i = (n : Int)) (hn : n < 18446744073709551616) (h1 : P.underlying t = some (.int k0)) (h2 : P.underlying t2 = some (.int .u64)) (hx : Rd c T x (.prim (.int k i))) : Stp c P ⟨dst, .convert t t2 x, ty, pos, after, g⟩ T S [(x, .prim (.int k i))] [] (uA (UInt64.ofNat n)) [] := by
  refine W.convW k0 .u64 _ h1 h2 ?_ hx
  rw [wrapU, UInt64.toNat_ofNat', Nat.mod_eq_of_lt (by omega)]
  omega
end
end Go.Proofs.Ytanokoededdceaa

namespace Go.Proofs.Ytanokoededdceaa
set_option linter.unusedVariables false
mutual
/-- Values that refer to nothing but what they own. -/
def AV.loose : AV → Bool
  | .prim _ => true
  | .dead => true
  | .agg cs => AV.looses cs
  | .tup vs => AV.looses vs
  | .lst o _ _ l => (o || l.isEmpty) && AV.looses l
  | .bx _ a => AV.loose a
  | .fn _ cap => AV.looses cap
  | _ => false
def AV.looses : List AV → Bool
  | [] => true
  | a :: as => AV.loose a && AV.looses as
end
section
variable {m m' : Mem}
mutual
theorem VC.loose (hw : m'.w = m.w) : (a : AV) → {c : List Value} → {bs : List Nat} → a.loose = true → VC m a c bs → VC m' a c bs
  | .prim _, _, _, _, k => k
  | .dead, _, _, _, k => k
  | .agg cs, _, _, h, k => VCs.loose hw cs h k
  | .tup cs, _, _, _, k => k.elim
  | .opt _ _, _, _, _, k => k.elim
  | .lst false t sz [], _, _, _, ⟨e, A, cap, e1, e2, e3, k⟩ => ⟨e, A, cap, e1, e2, e3, fun h0 => absurd h0 (by simp)⟩
  | .lst false t sz (a :: l), _, _, h, k => by simp [AV.loose] at h
  | .lst true t sz l, _, _, _, .inl k => .inl k
  | .lst true t sz l, _, _, h, .inr ⟨g, cap, arr, bs', e1, e2, e3, e4, e5, e6, e7, k⟩ => .inr ⟨g, cap, arr, bs', e1, e2, by rw [hw]; exact e3, e4, e5, e6, e7, VCs.loose hw l (by simpa [AV.loose] using h) k⟩
  | .bx t a, _, _, h, ⟨g, arr, bs', e1, e2, e3, e4, k⟩ => ⟨g, arr, bs', e1, e2, by rw [hw]; exact e3, e4, VC.loose hw a (by simpa [AV.loose] using h) k⟩
  | .sl x off len, _, _, h, k => by simp [AV.loose] at h
  | .ptr x i j, _, _, h, k => by simp [AV.loose] at h
  | .fp cs, _, _, h, k => by simp [AV.loose] at h
  | .fn f cap, _, _, h, ⟨vs, e, k⟩ => ⟨vs, e, VCs.loose hw cap (by simpa [AV.loose] using h) k⟩
  | .mp x, _, _, h, k => by simp [AV.loose] at h
theorem VCs.loose (hw : m'.w = m.w) : (as : List AV) → {c : List Value} → {bs : List Nat} → AV.looses as = true → VCs m as c bs → VCs m' as c bs
  | [], _, _, _, k => k
  | a :: as, _, _, h, ⟨c1, c2, b1, b2, e1, e2, k1, k2⟩ => ⟨c1, c2, b1, b2, e1, e2, VC.loose hw a (by simp [AV.looses] at h; exact h.1) k1, VCs.loose hw as (by simp [AV.looses] at h; exact h.2) k2⟩
end
theorem VV.looseN (hw : m'.w = m.w) {a : AV} {v : Value} {bs : List Nat} (hn : ntup a = true) (h : a.loose = true) (k : VV m a v bs) : VV m' a v bs := by
  cases a
  case agg cs => obtain ⟨cells, e, k⟩ := k; exact ⟨cells, e, VCs.loose hw cs h k⟩
  case tup cs => cases hn
  case opt c b => cases hn
  case dead => exact k
  all_goals exact VC.loose hw _ h k
theorem VTs.loose (hw : m'.w = m.w) : {as : List AV} → {vs : List Value} → {bs : List Nat} → AV.looses as = true → VTs m as vs bs → VTs m' as vs bs
  | [], _, _, _, k => k
  | a :: as, _, _, h, k => by
    have ha := VTs.ntup k
    simp only [AV.looses, Bool.and_eq_true] at h
    obtain ⟨v, vs', b1, b2, e1, e2, k1, k2⟩ := (VTs_cons ha).1 k
    exact (VTs_cons ha).2 ⟨v, vs', b1, b2, e1, e2, VV.looseN hw ha h.1 k1, VTs.loose hw h.2 k2⟩
theorem VV.loose (hw : m'.w = m.w) {a : AV} {v : Value} {bs : List Nat} (h : a.loose = true) (k : VV m a v bs) : VV m' a v bs := by
  cases a
  case tup cs => obtain ⟨vs, e, k⟩ := k; exact ⟨vs, e, VTs.loose hw h k⟩
  case opt c b => simp [AV.loose] at h
  all_goals exact VV.looseN hw rfl h k
end
/-- The memory in which all that objects own is frozen. -/
def Mem.lent (m : Mem) (Z : Zs) : Mem := ⟨m.μ, m.U, m.w, fun b => m.F b ∨ b ∈ Z.own⟩
theorem Mem.le_lent (m : Mem) (Z : Zs) : m.Le (m.lent Z) := ⟨fun _ h => h, fun _ _ _ h => h, fun b h => ⟨.inl h, rfl⟩⟩
theorem Spec.lendG {P : Program} {f : FuncId} {args args' : List AV} {S : List Slot} {Q : AV → List Slot → Prop} (h : Spec P f args [] Q) (hQ : ∀ r S', Q r S' → r.loose = true ∧ S' = [])
    (hv : ∀ (m : Mem) (Z : Zs) (Sf : List Slot), (∀ z ∈ Z, ORel m z.1.1 z.1.2 z.2) → Z.map (·.1) = S ++ Sf → ∀ us, VTs m args' us [] → VTs (m.lent Z) args us []) :
    Spec P f args' S fun r S' => Q r [] ∧ S' = S :=
  ⟨h.fn, fun Sf m N Z vals h1 h2 h3 => by
    have G1 : Good (m.lent Z) (m.lent Z) N [] [] := by
      refine ⟨(fun z hz => by cases hz), by simp [Zs.own], (fun b hb => by simp [Zs.own] at hb), fun b hb => ?_, by simp [Zs.keys], (fun x hx => by simp [Zs.keys] at hx), h2.usedN, .refl _, rfl, rfl, rfl, Nat.le_refl _⟩
      rcases hb with hb | hb
      · exact h2.frz b hb
      · exact (h2.blk b (by simpa using hb)).1
    refine (h.run [] (m.lent Z) N [] vals rfl G1 (hv m Z Sf h2.obj h1 _ h3)).mono ?_
    rintro e w' ⟨v, r, S', m2, N', Z', br, rfl, rfl, hm, G2, hr, hq⟩
    obtain ⟨hl, rfl⟩ := hQ r S' hq
    have hZ : Z' = [] := by simpa using hm
    subst hZ
    have hF : ∀ b, m.F b ∨ b ∈ Z.own → m2.F b ∧ m2.w.heap[b]? = m.w.heap[b]? := fun b hb => G2.le.F b hb
    have hbr : ∀ b ∈ br, b < m2.w.heap.size ∧ ¬ m2.F b := fun b hb => G2.blk b (by simpa [Zs.own] using hb)
    refine ⟨v, r, S, ⟨m.μ, m.U, m2.w, m.F⟩, N, Z, br, rfl, rfl, h1, ?_, VV.loose (m := m2) (m' := ⟨m.μ, m.U, m2.w, m.F⟩) rfl hl hr, hq, rfl⟩
    have hle : m.Le ⟨m.μ, m.U, m2.w, m.F⟩ := ⟨fun _ h => h, fun _ _ _ h => h, fun b hb => ⟨hb, (hF b (.inl hb)).2⟩⟩
    refine ⟨fun z hz => ?_, ?_, fun b hb => ?_, fun b hb => ?_, h2.keys, h2.keyN, h2.usedN, hle, G2.os, G2.tape, G2.output, G2.size⟩
    · refine ORel.mono hle (fun e => ?_) (fun L hL => hL) (fun b hb => (hF b (.inr (List.mem_flatMap.2 ⟨z, hz, hb⟩))).2) (h2.obj z hz)
      have := h2.obj z hz
      rw [e] at this
      exact this.2
    · rw [List.nodup_append]
      refine ⟨by simpa using h2.own, by simpa [Zs.own] using G2.own, fun a ha b hb e => ?_⟩
      subst e
      exact (hbr a hb).2 (hF a (.inr ha)).1
    · rcases List.mem_append.1 hb with hb | hb
      · have := h2.blk b (by simpa using hb)
        exact ⟨Nat.lt_of_lt_of_le this.1 G2.size, this.2⟩
      · exact ⟨(hbr b hb).1, fun hf => (hbr b hb).2 (hF b (.inl hf)).1⟩
    · exact Nat.lt_of_lt_of_le (h2.frz b hb) G2.size⟩
mutual
/-- The value a reads as b while the objects S are lent. -/
inductive Ld (S : List Slot) : AV → AV → Prop
  | frz {a : AV} : Ld S a a.frz
  | nil {t : TypeId} {sz : Nat} : Ld S (.prim (.slice none 0 0)) (.lst false t sz [])
  | agg {as bs : List AV} (h : Lds S as bs) : Ld S (.agg as) (.agg bs)
  | lst {o : Bool} {t : TypeId} {sz : Nat} {l l' : List AV} (h : Lds S l l') : Ld S (.lst o t sz l) (.lst false t sz l')
  | sl {X off n p : Nat} {t : TypeId} {sz : Nat} {l l' : List AV} (h : At S p (X, .row t sz l)) (hn : off + n ≤ l.length) (k : Lds S ((l.drop off).take n) l') : Ld S (.sl X off n) (.lst false t sz l')
  | ptr {X p : Nat} {t : TypeId} {sz : Nat} {a b : AV} {cs : List AV} (h : At S p (X, .row t sz [a])) (k : Ld S a b) (e : b.cells = cs) : Ld S (.ptr X 0 0) (.fp cs)
inductive Lds (S : List Slot) : List AV → List AV → Prop
  | nil : Lds S [] []
  | cons {a b : AV} {as bs : List AV} (h : Ld S a b) (k : Lds S as bs) : Lds S (a :: as) (b :: bs)
end
theorem Lds.len {S : List Slot} : ∀ {as bs : List AV}, Lds S as bs → bs.length = as.length
  | [], _, h => by cases h; rfl
  | a :: as, _, h => by cases h with | cons h k => simp [Lds.len k]
mutual
theorem Ld.width {S : List Slot} : ∀ {a b : AV}, Ld S a b → b.width = a.width
  | _, _, .frz => frz_width _
  | _, _, .nil => rfl
  | _, _, .agg h => Lds.widths h
  | _, _, .lst _ => rfl
  | _, _, .sl _ _ _ => rfl
  | _, _, .ptr _ _ _ => rfl
theorem Lds.widths {S : List Slot} : ∀ {as bs : List AV}, Lds S as bs → AV.widths bs = AV.widths as
  | _, _, .nil => rfl
  | _, _, .cons h k => by simp only [AV.widths, Ld.width h, Lds.widths k]
end
theorem Lds.wsz {S : List Slot} {sz : Nat} : ∀ {a b : List AV}, Lds S a b → (∀ e ∈ a, e.width = sz) → ∀ e ∈ b, e.width = sz
  | _, _, .nil, _, e, he => by cases he
  | a :: as, b :: bs, .cons h k, hw, e, he => by
    rcases List.mem_cons.1 he with rfl | he
    · rw [Ld.width h]; exact hw a (by simp)
    · exact Lds.wsz k (fun x hx => hw x (by simp [hx])) e he
section
variable {m : Mem} {S Sf : List Slot} {Z : Zs}
theorem lent_at (hO : ∀ z ∈ Z, ORel m z.1.1 z.1.2 z.2) (hm : Z.map (·.1) = S ++ Sf) {p X : Nat} {t : TypeId} {sz : Nat} {l : List AV} (h : At S p (X, .row t sz l)) : ∃ bs, ORel m X (.row t sz l) bs ∧ ∀ b ∈ bs, b ∈ Z.own := by
  have hg := h.get
  obtain ⟨hp, _⟩ := List.getElem?_eq_some_iff.1 hg
  have h2 : (Z.map (·.1))[p]? = some (X, .row t sz l) := by rw [hm, List.getElem?_append_left hp]; exact hg
  rw [List.getElem?_map] at h2
  cases hz : Z[p]? with
  | none => rw [hz] at h2; cases h2
  | some z =>
    rw [hz] at h2
    injection h2 with h2
    have hzm := List.mem_of_getElem? hz
    have := hO z hzm
    have h2 : z.1 = (X, AO.row t sz l) := h2
    rw [h2] at this
    exact ⟨z.2, this, fun b hb => List.mem_flatMap.2 ⟨z, hzm, hb⟩⟩
mutual
theorem Ld.vc (hO : ∀ z ∈ Z, ORel m z.1.1 z.1.2 z.2) (hm : Z.map (·.1) = S ++ Sf) : ∀ {a b : AV}, Ld S a b → ∀ {c : List Value} {bs : List Nat}, (∀ x ∈ bs, x ∈ Z.own) → VC m a c bs → VC (m.lent Z) b c []
  | _, _, .frz, c, bs, hb, k => VC.frz (m.le_lent Z) _ (fun b hbb => ⟨.inr (hb b hbb), rfl⟩) k
  | _, _, .nil, c, bs, hb, k => by
    obtain ⟨⟨rfl, _⟩, _⟩ := k
    exact ⟨rfl, none, 0, rfl, Nat.le_refl _, (fun e he => by cases he), fun h => absurd h (by simp)⟩
  | _, _, .agg h, c, bs, hb, k => Lds.vcs hO hm h hb k
  | _, _, .lst (o := false) (l' := l') h, c, bs, hb, ⟨e, A, cap, e1, e2, e3, k⟩ => by
    refine ⟨rfl, A, cap, by rw [h.len]; exact e1, by rw [h.len]; exact e2, h.wsz e3, fun h0 => ?_⟩
    rw [h.len] at h0 ⊢
    obtain ⟨b, off, arr, t, r, q1, q2, q3, q4⟩ := k h0
    exact ⟨b, off, arr, t, r, q1, .inl q2, q3, Lds.vcs hO hm h (by simp) q4⟩
  | _, _, .lst (o := true) h, c, bs, hb, .inl ⟨e1, e2, e3⟩ => by
    subst e2
    cases h
    exact ⟨rfl, none, 0, e1, Nat.le_refl _, (fun e he => by cases he), fun h => absurd h (by simp)⟩
  | _, _, .lst (o := true) h, c, bs, hb, .inr ⟨g, cap, arr, bs', e1, e2, e3, e4, e5, e6, e7, k⟩ => by
    refine ⟨rfl, some ⟨g, 0, none⟩, cap, by rw [h.len]; exact e1, by rw [h.len]; exact e5, h.wsz e7, fun h0 => ?_⟩
    rw [h.len]
    exact ⟨g, 0, arr, _, (0, 0), rfl, .inr (hb g (by simp [e2])), e3, Lds.vcs hO hm h (fun x hx => hb x (by rw [e2]; exact List.mem_cons_of_mem _ hx)) (by rw [List.drop_zero]; exact k)⟩
  | _, _, .sl (off := off) (n := n) (l := l) (l' := l') h hn hl, c, bs, hb, ⟨_, hU, A, q, e1, hs⟩ => by
    obtain ⟨bs2, hR, hb2⟩ := lent_at hO hm h
    obtain ⟨_, L, hL, hsz, hR⟩ := hR
    have hfl : l'.length = n := by rw [hl.len, List.length_take, List.length_drop]; omega
    refine ⟨rfl, A, q, by rw [hfl]; exact e1, ?_, ?_, fun h0 => ?_⟩
    · rcases hs L hL with ⟨_, h2, _, h3⟩ | ⟨_, h2, o, h3, _⟩
      · omega
      · injection h3 with h4 h5 h6
        omega
    · refine hl.wsz fun e he => ?_
      rcases hR with ⟨_, rfl, _⟩ | ⟨_, arr, bs', _, _, _, _, _, hw, _⟩
      · simp at he
      · exact hw e (List.mem_of_mem_drop (List.mem_of_mem_take he))
    · rw [hfl] at h0 ⊢
      rcases hs L hL with ⟨_, _, _, h3⟩ | ⟨h1, h2, o, h3, h4⟩
      · omega
      · rcases hR with ⟨_, rfl, _⟩ | ⟨_, arr, bs', rfl, h6, h7, h8, h9, h10, h11⟩
        · simp at hn; omega
        · injection h3 with h12 h13 h14
          have ho := h4 (.inl (by omega))
          obtain ⟨p1, p2, e1, _, k1⟩ := VCs.take h10 h11 (k := off) (by omega)
          obtain ⟨p3, p4, e2, k2, _⟩ := VCs.take (l := l.drop off) (fun e he => h10 e (List.mem_of_mem_drop he)) k1 (k := n) (by rw [List.length_drop]; omega)
          refine ⟨L.blk, o, arr, _, (0, 0), h12, .inr (hb2 _ (by simp)), h6, ?_⟩
          have hc : (arr.toList.drop o).take (n * L.sz) = ((arr.toList.take (l.length * L.sz)).drop (off * L.sz)).take (n * L.sz) := by
            rw [ho, List.drop_take, List.take_take, Nat.min_eq_left]
            rw [← Nat.sub_mul]
            exact Nat.mul_le_mul_right _ (by omega)
          subst hsz
          rw [hc]
          exact Lds.vcs hO hm hl (fun x hx => hb2 x (by simp [e1, e2, hx])) k2
  | _, _, .ptr (a := a) (b := b) h hl e, c, bs, hb, ⟨_, hU, A, e1, hA⟩ => by
    subst e
    obtain ⟨bs2, hR, hb2⟩ := lent_at hO hm h
    obtain ⟨_, L, hL, hsz, hR⟩ := hR
    have hA := hA L hL
    subst hA
    rcases hR with ⟨_, h5, _⟩ | ⟨_, arr, bs', rfl, h6, h7, h8, h9, h10, h11⟩
    · cases h5
    · have hw := h10 a (by simp)
      have hv : VC m a (arr.toList.take a.width) bs' := by rw [hw]; simpa using VCs.one.1 h11
      have hf := VC.cells (Ld.vc hO hm hl (fun x hx => hb2 x (by simp [hx])) hv)
      refine ⟨rfl, L.blk, 0 * L.sz + 0, arr, _, (0, 0), e1, .inr (hb2 _ (by simp)), h6, ?_⟩
      have hl2 : AV.widths b.cells = a.width := by
        rw [← VCs.len _ hf, List.length_take, Nat.min_eq_left]
        have := VC.len _ hv
        rw [List.length_take] at this
        omega
      rw [hl2]
      simpa using hf
theorem Lds.vcs (hO : ∀ z ∈ Z, ORel m z.1.1 z.1.2 z.2) (hm : Z.map (·.1) = S ++ Sf) : ∀ {as bs : List AV}, Lds S as bs → ∀ {c : List Value} {bl : List Nat}, (∀ x ∈ bl, x ∈ Z.own) → VCs m as c bl → VCs (m.lent Z) bs c []
  | _, _, .nil, c, bl, hb, ⟨e, _⟩ => ⟨e, rfl⟩
  | _, _, .cons h k, c, bl, hb, ⟨c1, c2, b1, b2, e1, e2, k1, k2⟩ => ⟨c1, c2, [], [], e1, rfl, Ld.vc hO hm h (fun x hx => hb x (by simp [e2, hx])) k1, Lds.vcs hO hm k (fun x hx => hb x (by simp [e2, hx])) k2⟩
end
end
theorem Ld.tup {S : List Slot} {a b : AV} (h : Ld S a b) (ha : ntup a = true) : ntup b = true := by
  cases h with
  | frz => cases a <;> first | rfl | cases ha
  | _ => rfl
section
variable {m : Mem} {S Sf : List Slot} {Z : Zs}
theorem Ld.vv (hO : ∀ z ∈ Z, ORel m z.1.1 z.1.2 z.2) (hm : Z.map (·.1) = S ++ Sf) {a b : AV} (h : Ld S a b) {u : Value} (k : VV m a u []) : VV (m.lent Z) b u [] := by
  cases h with
  | frz => exact VV.frz (m.le_lent Z) (by simp) k
  | @nil t sz => exact Ld.vc hO hm (Ld.nil (S := S) (t := t) (sz := sz)) (bs := []) (by simp) k
  | agg h => obtain ⟨cells, e, k⟩ := k; exact ⟨cells, e, Lds.vcs hO hm h (by simp) k⟩
  | lst h => exact Ld.vc hO hm (.lst h) (by simp) k
  | sl h hn hl => exact Ld.vc hO hm (.sl h hn hl) (by simp) k
  | ptr h hl e => exact Ld.vc hO hm (.ptr h hl e) (by simp) k
theorem Lds.vts (hO : ∀ z ∈ Z, ORel m z.1.1 z.1.2 z.2) (hm : Z.map (·.1) = S ++ Sf) : ∀ {as bs : List AV}, Lds S as bs → ∀ {us : List Value}, VTs m as us [] → VTs (m.lent Z) bs us []
  | _, _, .nil, us, k => k
  | _, _, .cons h hk, us, k => by
    have ha := VTs.ntup k
    obtain ⟨v, vs', b1, b2, e1, e2, k1, k2⟩ := (VTs_cons ha).1 k
    obtain ⟨rfl, rfl⟩ : b1 = [] ∧ b2 = [] := by simpa using e2.symm
    exact (VTs_cons (h.tup ha)).2 ⟨v, vs', [], [], e1, rfl, h.vv hO hm k1, Lds.vts hO hm hk k2⟩
end
theorem Spec.lend {P : Program} {f : FuncId} {args args' : List AV} {S : List Slot} {Q : AV → List Slot → Prop} (h : Spec P f args [] Q) (hQ : ∀ r S', Q r S' → r.loose = true ∧ S' = []) (k : Lds S args' args) : Spec P f args' S fun r S' => Q r [] ∧ S' = S :=
  h.lendG hQ fun m Z Sf hO hm us hu => k.vts hO hm hu
theorem PS.lend {P : Program} {f : FuncId} {args args' : List AV} {S : List Slot} {r : AV} (h : PS P f args r) (hr : r.loose = true) (k : Lds S args' args) : Spec P f args' S fun r' S' => r' = r ∧ S' = S :=
  (Spec.lend h (fun r' S' ⟨e1, e2⟩ => ⟨e1 ▸ hr, e2⟩) k).mono fun r' S' ⟨⟨e1, _⟩, e2⟩ => ⟨e1, e2⟩
theorem Spec.lendE {P : Program} {f : FuncId} {args args' : List AV} {S : List Slot} {β : Type} {C : β → Prop} {rr : β → AV} (h : Spec P f args [] fun r S' => ∃ b, C b ∧ r = rr b ∧ S' = []) (hr : ∀ b, (rr b).loose = true) (k : Lds S args' args) : Spec P f args' S fun r S' => ∃ b, C b ∧ r = rr b ∧ S' = S :=
  (Spec.lend h (fun r' S' ⟨b, _, e1, e2⟩ => ⟨e1 ▸ hr b, e2⟩) k).mono fun r' S' ⟨⟨b, hb, e1, _⟩, e2⟩ => ⟨b, hb, e1, e2⟩
/-- All objects, with their places. -/
def idxS : Nat → List Slot → List (Nat × Slot)
  | _, [] => []
  | k, z :: l => (k, z) :: idxS (k + 1) l
theorem idxS_snd : ∀ (k : Nat) (l : List Slot), (idxS k l).map (·.2) = l
  | _, [] => rfl
  | k, z :: l => by rw [idxS, List.map_cons, idxS_snd]
theorem idxS_fst : ∀ (k : Nat) (l : List Slot), (idxS k l).map (·.1) = List.range' k l.length
  | _, [] => rfl
  | k, z :: l => by rw [idxS, List.map_cons, idxS_fst, List.length_cons, List.range'_succ]
theorem At.mid : ∀ (A : List Slot) (z : Slot) (C : List Slot), At (A ++ z :: C) A.length z
  | [], z, C => .here
  | a :: A, z, C => .next (At.mid A z C)
theorem idxS_gets : ∀ (A B C : List Slot), Gets (A ++ (B ++ C)) (idxS A.length B)
  | A, [], C => .nil
  | A, z :: B, C => .cons (At.mid A z (B ++ C)) (by
      have := idxS_gets (A ++ [z]) B C
      rw [List.length_append, List.append_assoc] at this
      exact this)
theorem gets_app {S : List Slot} : ∀ {a b : List (Nat × Slot)}, Gets S a → Gets S b → Gets S (a ++ b)
  | [], b, _, k => k
  | x :: a, b, .cons h k, k2 => .cons h (gets_app k k2)
theorem setAll_app (S : List Slot) (a b : List (Nat × Slot)) : setAll S (a ++ b) = setAll (setAll S a) b := by
  induction a generalizing S with
  | nil => rfl
  | cons x a ih => exact ih _
theorem setAll_idxS : ∀ (A B B' C : List Slot), B'.length = B.length → setAll (A ++ (B ++ C)) (idxS A.length B') = A ++ (B' ++ C)
  | A, [], [], C, _ => rfl
  | A, y :: B, z :: B', C, h => by
    have := setAll_idxS (A ++ [z]) B B' C (by simpa using h)
    rw [List.length_append, List.append_assoc, List.append_assoc] at this
    rw [idxS, setAll]
    have e : (A ++ (y :: B ++ C)).set A.length z = A ++ ([z] ++ (B ++ C)) := by rw [List.set_append_right _ _ (Nat.le_refl _), Nat.sub_self]; rfl
    rw [e]
    exact this
theorem gones_len (s : List Slot) : (gones s).length = s.length := by simp [gones]
section
variable {P : Program} {ro : Option Nat} {nt : Nat} {ops : Array Oper} {Q : Exit → St → Prop} {rest : List Oper} {T : List (Nat × AV)} {S : List Slot} {ty : TypeId} {pos : String} {after : Array Edge} {dst : Option Tmp} {ats : Array TypeId} {f : FuncId} {xs : List (Operand × AV)} {args : List AV}
/-- A call that only reads, with all objects lent to it; what its result owns becomes objects. -/
theorem AOps.lendE {β : Type} {C : β → Prop} {rr vv : β → AV} {nw : β → List Slot} {gs : List Slot} (h : Spec P f args [] fun r S' => ∃ b, C b ∧ r = rr b ∧ S' = []) (hr : ∀ b, (rr b).loose = true) (kL : Lds S (xs.map (·.2)) args) (hT : ∀ b, TR (rr b) (vv b) (nw b)) (hgs : ∀ b, gones (nw b) = gs) (hx : Evs T xs) (ht : noTup xs = true) (hd : dstOk dst nt = true)
    (k : ∀ b, C b → AOps ro P nt ops Q rest ⟨putD T dst (vv b), nw b ++ S⟩) : AOps ro P nt ops Q (⟨dst, .call ⟨.value (.func f), (xs.map (·.1)).toArray, ats⟩, ty, pos, after, none⟩ :: rest) ⟨T, gs ++ S⟩ := by
  have hs := Spec.lendE h hr kL
  have hl : ∀ b, (nw b).length = gs.length := fun b => by rw [← hgs b, gones_len]
  have hG : Gets (gs ++ S) (idxS gs.length S ++ idxS 0 gs) := gets_app (by simpa using idxS_gets gs S []) (by simpa using idxS_gets [] gs S)
  have hnd : ((idxS gs.length S ++ idxS 0 gs).map (·.1)).Nodup := by
    rw [List.map_append, idxS_fst, idxS_fst, List.nodup_append]
    refine ⟨List.nodup_range', List.nodup_range', fun a ha b hb e => ?_⟩
    rw [List.mem_range'_1] at ha hb
    omega
  have hset : ∀ b, setAll (gs ++ S) (idxS gs.length S ++ idxS 0 (nw b)) = nw b ++ S := fun b => by
    have e1 := setAll_idxS gs S S [] rfl
    have e2 := setAll_idxS [] gs (nw b) S (hl b)
    simp only [List.append_nil, List.nil_append, List.length_nil] at e1 e2
    rw [setAll_app, e1, e2]
  have hkeys : ∀ b, ((idxS gs.length S ++ idxS 0 (nw b)).map (·.1)) = (idxS gs.length S ++ idxS 0 gs).map (·.1) := fun b => by
    rw [List.map_append, List.map_append, idxS_fst, idxS_fst, idxS_fst, hl b]
  rintro m0 a w ⟨m, N, Z, rfl, h2, h3, h4⟩
  refine wpListIn_plain rfl fun K hK => wpIn_fwE (C := C) (sE := fun b => ⟨putD T dst (vv b), setAll (gs ++ S) (idxS gs.length S ++ idxS 0 (nw b))⟩) (by simp) (wp_call (fun _ => rfl) h.fn (callG_runE (So := fun _ => S) (rS := idxS gs.length S ++ idxS 0 gs) (wE := fun b => idxS gs.length S ++ idxS 0 (nw b)) hs hT hgs (by rw [List.map_append, idxS_snd, idxS_snd]) (fun b => by rw [List.map_append, idxS_snd, idxS_snd]) hkeys hnd hG.all (dstOk_lt hd) h2 h3 h4 ?_)) fun a' w' ⟨b, hb, hrel⟩ => hK _ _ (k b hb m0 _ _ (by rw [hset b] at hrel; exact hrel))
  have := vts_of (noTup_spec ht) fun q hq => h4.ev (hx.all q hq)
  simpa [Function.comp_def] using this
end
section
variable {P : Program} {ro : Option Nat} {nt : Nat} {ops : Array Oper} {Q : Exit → St → Prop} {rest : List Oper} {T : List (Nat × AV)} {S : List Slot} {ty : TypeId} {pos : String} {after : Array Edge} {dst : Option Tmp} {ats : Array TypeId} {f : FuncId} {r v : AV} {nw : List Slot}
theorem AOps.be3 {x0 : Operand} {v0 a0 : AV} {x1 : Operand} {v1 a1 : AV} {x2 : Operand} {v2 a2 : AV} {β : Type} {C : β → Prop} {rr vv : β → AV} (h : Spec P f [a0, a1, a2] [] fun r S' => ∃ b, C b ∧ r = rr b ∧ S' = []) (l0 : Ld S v0 a0) (l1 : Ld S v1 a1) (l2 : Ld S v2 a2) [hf : ∀ b, Frz (rr b) (vv b)] (k : ∀ b, C b → AOps ro P nt ops Q rest ⟨putD T dst (vv b), S⟩) (hr : ∀ b, (rr b).loose = true := by exact fun _ => rfl) (h0 : Rd none T x0 v0 := by rfl) (h1 : Rd none T x1 v1 := by rfl) (h2 : Rd none T x2 v2 := by rfl) (ht : noTup [(x0, v0), (x1, v1), (x2, v2)] = true := by rfl) (hd : dstOk dst nt = true := by rfl) : AOps ro P nt ops Q (⟨dst, .call ⟨.value (.func f), #[x0, x1, x2], ats⟩, ty, pos, after, none⟩ :: rest) ⟨T, S⟩ := AOps.lendE (xs := [(x0, v0), (x1, v1), (x2, v2)]) (gs := []) (nw := fun _ => []) h hr (.cons l0 (.cons l1 (.cons l2 .nil))) (fun b => .fz) (fun _ => rfl) (.cons h0 (.cons h1 (.cons h2 .nil))) ht hd k
end
/- What a list of objects reads as. -/
theorem Lds.frzs {S : List Slot} : ∀ l : List AV, Lds S l (AV.frzs l)
  | [] => .nil
  | a :: l => .cons .frz (Lds.frzs l)
theorem Lds.fz {S : List Slot} {a b : List AV} [h : Frzs a b] : Lds S a b := h.h ▸ .frzs a
theorem Ld.row {S : List Slot} {X n p : Nat} {t : TypeId} {sz : Nat} {l l' : List AV} [hf : Frzs l l'] (h : At S p (X, .row t sz l) := by exact At.f) (hn : n = l.length := by rfl) : Ld S (.sl X 0 n) (.lst false t sz l') :=
  .sl h (by omega) (by rw [List.drop_zero, hn, List.take_length]; exact Lds.fz)
end Go.Proofs.Ytanokoededdceaa

namespace Go.Proofs.Ytanokoededdceaa
set_option linter.unusedVariables false
theorem Good.addUsed {m0 m : Mem} {N X : Nat} {Z : Zs} {br : List Nat} (G : Good m0 m N Z br) (hU : m.U X) (hk : X ∉ Z.keys) : Good m0 m N (((X, .used), []) :: Z) br := by
  refine ⟨fun q hq => ?_, by simpa [Zs.own] using G.own, by simpa [Zs.own] using G.blk, G.frz, List.nodup_cons.2 ⟨hk, G.keys⟩, fun x hx => ?_, G.usedN, G.le, G.os, G.tape, G.output, G.size⟩
  · rcases List.mem_cons.1 hq with rfl | hq
    · exact ⟨rfl, hU⟩
    · exact G.obj q hq
  · rcases List.mem_cons.1 hx with rfl | hx
    · exact G.usedN _ hU
    · exact G.keyN x hx
theorem Spec.used2 {P : Program} {f : FuncId} {args : List AV} {X Y : Nat} {t t2 : TypeId} {sz sz2 : Nat} {l l2 : List AV} {r : AV} (h : Spec P f args [(X, .row t sz l), (Y, .row t2 sz2 l2)] fun r' S' => r' = r ∧ S' = []) : Spec P f args [(X, .row t sz l), (Y, .row t2 sz2 l2)] fun r' S' => r' = r ∧ S' = [(X, .used), (Y, .used)] :=
  ⟨h.fn, fun Sf m N Z vals h1 h2 h3 => (h.run Sf m N Z vals h1 h2 h3).mono fun e w' ⟨v, r', S', m', N', Z', br, a, b, hm, G, e', hr, hS⟩ => by
    subst hS
    simp only [List.nil_append] at hm
    have hk : ∀ Z1 : Zs, Z1.keys = (Z1.map (·.1)).map (·.1) := fun Z1 => by simp [Zs.keys]
    have hkeys := h2.keys
    rw [hk, h1] at hkeys
    simp only [List.cons_append, List.nil_append, List.map_cons, List.nodup_cons, List.mem_cons, not_or] at hkeys
    obtain ⟨⟨hXY, hX⟩, hY, _⟩ := hkeys
    have hUX : m.U X := by
      have : (X, AO.row t sz l) ∈ Z.map (·.1) := by rw [h1]; simp
      obtain ⟨z, hz, e1⟩ := List.mem_map.1 this
      have hO := h2.obj z hz
      rw [e1] at hO
      exact hO.1
    have hUY : m.U Y := by
      have : (Y, AO.row t2 sz2 l2) ∈ Z.map (·.1) := by rw [h1]; simp
      obtain ⟨z, hz, e1⟩ := List.mem_map.1 this
      have hO := h2.obj z hz
      rw [e1] at hO
      exact hO.1
    have nY : Y ∉ Z'.keys := by rw [hk, hm]; exact hY
    have G1 := G.addUsed (G.le.U Y hUY) nY
    have nX : X ∉ Zs.keys (((Y, AO.used), []) :: Z') := by
      rw [hk, List.map_cons, hm]
      simp only [List.map_cons, List.mem_cons, not_or]
      exact ⟨hXY, hX⟩
    exact ⟨v, r', [(X, .used), (Y, .used)], m', N', ((X, .used), []) :: ((Y, .used), []) :: Z', br, a, b, by simp [hm], G1.addUsed (G.le.U X hUX) nX, e', hr, rfl⟩⟩
end Go.Proofs.Ytanokoededdceaa

namespace Go.Proofs.Ytanokoededdceaa
set_option linter.unusedVariables false
variable {ro : Option Nat}
section
variable {P : Program} {nt : Nat} {ops : Array Oper} {Q : Exit → St → Prop} {rest : List Oper} {T : List (Nat × AV)} {S : List Slot} {f : FuncId} {x0 x1 x2 : Operand} {v0 v1 v2 r v : AV} {dst : Option Tmp} {ats : Array TypeId} {ty : TypeId} {pos : String} {after : Array Edge} {p1 p2 : Nat} {z1 z2 : Slot} {y1 y2 : Nat → Slot} {Sin Sout news : List Slot} {rS wS : List (Nat × Slot)}
/-- A call that hands two objects back, one of them at a new stamp. -/
theorem AOps.eQ3 (h : Spec P f [v0, v1, v2] [z1, z2] fun r' S' => ∃ b : Nat, r' = r ∧ S' = [y1 b, y2 b]) [hf : Frz r v] (k : ∀ b : Nat, AOps ro P nt ops Q rest ⟨putD T dst v, setAll S [(p1, y1 b), (p2, y2 b)]⟩)
    (a1 : At S p1 z1 := by exact At.f) (a2 : At S p2 z2 := by exact At.f) (hnd : nodupB [p1, p2] = true := by rfl) (h0 : Rd none T x0 v0 := by rfl) (h1 : Rd none T x1 v1 := by rfl) (h2 : Rd none T x2 v2 := by rfl) (ht : noTup [(x0, v0), (x1, v1), (x2, v2)] = true := by rfl) (hd : dstOk dst nt = true := by rfl) :
    AOps ro P nt ops Q (⟨dst, .call ⟨.value (.func f), #[x0, x1, x2], ats⟩, ty, pos, after, none⟩ :: rest) ⟨T, S⟩ :=
  AOps.callE (xs := [(x0, v0), (x1, v1), (x2, v2)]) (C := fun _ => True) (rr := fun _ => r) (vv := fun _ => v) (So := fun b => [y1 b, y2 b]) (nw := fun _ => []) (gs := []) (rS := [(p1, z1), (p2, z2)]) (wE := fun b => [(p1, y1 b), (p2, y2 b)])
    (h.mono fun r' S' ⟨b, e1, e2⟩ => ⟨b, trivial, e1, e2⟩) (fun _ => .fz) (fun _ => rfl) (fun b => .cons a1 (.cons a2 .nil)) (nodupB_spec hnd) rfl (.cons a1 (.cons a2 .nil)) (.cons h0 (.cons h1 (.cons h2 .nil))) ht hd (fun b _ => k b)
end
end Go.Proofs.Ytanokoededdceaa

namespace Go.Proofs.Ytanokoededdceaa
set_option linter.unusedVariables false
section
variable {P : Program} {dst : Option Tmp} {ty t ty2 : TypeId} {pos : String} {after : Array Edge} {g : Option (Nat × Bool)} {T : List (Nat × AV)} {S : List Slot} {c : Option (List Bool)} {x y : Operand} {a b : UInt64}
end
section
variable {P : Program} {ro : Option Nat} {nt : Nat} {ops : Array Oper} {Q : Exit → St → Prop} {rest : List Oper} {T : List (Nat × AV)} {S : List Slot} {op : Op} {ty : TypeId} {pos : String} {after : Array Edge} {dst : Option Tmp}
end
end Go.Proofs.Ytanokoededdceaa

namespace Go.Proofs.Ytanokoededdceaa
set_option linter.unusedVariables false
variable {ro : Option Nat}
section
variable {P : Program} {ty t t' te : TypeId} {pos : String} {after : Array Edge} {g : Option (Nat × Bool)} {dst : Option Tmp} {x y z : Operand} {l : List AV} {sz : Nat} {c : Option (List Bool)} {T : List (Nat × AV)} {S : List Slot} {i j : Int} {k k2 : IntKind}
end
/-! ### equality -/
theorem eq_twoF {P : Program} {t : TypeId} (n : Nat) (h1 : P.underlying t = some (.struct (P.fieldsOf t))) (h2 : P.stoodInHeld t = false) (h : two2 P t = true) (a b c d : Int) (w : World) : (Op.equalIn (n + 2) t (.agg #[.int .i64 a, .int .i64 b]) (.agg #[.int .i64 c, .int .i64 d])).run P w = .ok (decide (a = c) && decide (b = d)) w := by
  rw [run_equalIn_agg w (n + 1) t _ _ h1 h2]
  unfold two2 at h
  split at h
  · rename_i f1 f2 hf
    simp only [Bool.and_eq_true, bne_iff_ne, ne_eq, beq_iff_eq] at h
    obtain ⟨⟨⟨⟨n1, n2⟩, o1⟩, o2⟩, hu⟩ := h
    split at hu
    · rename_i k1 k2 u1 u2
      have p1 : ∀ x y : Int, (part f1.type #[.int .i64 x, .int .i64 y] f1.offset).run P w = .ok (.int .i64 x) w := fun x y => run_part_int u1 (by rw [o1]; rfl) w
      have p2 : ∀ x y : Int, (part f2.type #[.int .i64 x, .int .i64 y] f2.offset).run P w = .ok (.int .i64 y) w := fun x y => run_part_int u2 (by rw [o2]; rfl) w
      have q1 : ∀ a c : Int, (Op.equalIn (n + 1) f1.type (.int .i64 a) (.int .i64 c)).run P w = .ok (a == c) w := fun a c => run_equalIn_int (P := P) w n f1.type .i64 k1 a c u1
      have q2 : ∀ a c : Int, (Op.equalIn (n + 1) f2.type (.int .i64 a) (.int .i64 c)).run P w = .ok (a == c) w := fun a c => run_equalIn_int (P := P) w n f2.type .i64 k2 a c u2
      rw [hf]
      by_cases e1 : a = c
      · by_cases e2 : b = d
        · simp [Op.eqFields, n1, n2, Sem.run_bind, p1, p2, q1, q2, e1, e2, Sem.run_pure, Sem.run_ite, Result.andThen_ok]
        · simp [Op.eqFields, n1, n2, Sem.run_bind, p1, p2, q1, q2, e1, e2, Sem.run_pure, Sem.run_ite, Result.andThen_ok]
      · simp [Op.eqFields, n1, Sem.run_bind, p1, q1, e1, Sem.run_pure, Sem.run_ite, Result.andThen_ok]
    · cases hu
  · cases h
end Go.Proofs.Ytanokoededdceaa

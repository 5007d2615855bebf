/-
  Part 3 of the texts under the law SystemAlone: the layer of abstract values, walks and plain laws. Conditions: those that each theorem names.
-/
import Derived.Lib.SliceRun
import Derived.Laws.StructEq
import Derived.Lib.Overlaps
import Derived.Laws.BytesString
import Derived.Laws.BitsAllLaws
import Derived.Test.YtkoehhpfjpdkcaaGreatSystemAloneP2
namespace Go.Proofs.YtkoehhpfjpdkcaaGreat
set_option linter.unusedVariables false
set_option linter.unusedSimpArgs false
variable {ro : Option Nat}
open Go.RowKit
theorem lp_nextS {β : Type} {R : β → Prop} {μ : β → Nat} {m : Nat} {inv : β → St} {st : St} (b' : β) (hR : R b') (hS : (inv b').S.Sublist st.S) (hμ : μ b' < m := by omega) (hT : Looks st.T (inv b').T := by exact (by (repeat (first | exact .nil | refine .cons (by first | rfl | assumption) ?_)))) : ∃ b', R b' ∧ μ b' < m ∧ st.Le (inv b') := ⟨b', hR, hμ, hT, hS⟩
theorem cells_frz (a : AV) : a.frz.cells = AV.frzs a.cells := by cases a <;> rfl
theorem Frz.fp {a b : AV} (h : Frz a b) : Frz (.fp a.cells) (.fp b.cells) := ⟨by show AV.fp (AV.frzs a.cells) = _; rw [← cells_frz, h.h]⟩
instance {f : FuncId} {l l' : List AV} [h : Frzs l l'] : Frz (.fn f l) (.fn f l') := ⟨by show AV.fn f (AV.frzs l) = _; rw [h.h]⟩
instance {l l' : List AV} [h : Frzs l l'] : Frz (.fp l) (.fp l') := ⟨by show AV.fp (AV.frzs l) = _; rw [h.h]⟩
theorem Frz.fn1 {f : FuncId} {a b : AV} (h : Frz a b) : Frz (.fn f [a]) (.fn f [b]) := ⟨by show AV.fn f [a.frz] = _; rw [h.h]⟩
section
variable {P : Program} {nt : Nat} {ops : Array Oper} {Q : Exit → St → Prop} {rest : List Oper} {T : List (Nat × AV)} {S : List Slot} {dst : Option Tmp} {ty t te : TypeId} {pos : String} {after : Array Edge} {g : Option (Nat × Bool)} {x y : Operand} {X p sz : Nat} {l : List AV}
theorem OpT.lit0 (he : tElem P t = some te) (hsz : tSz P te = some sz) : OpT P ⟨dst, .buildSlice t 0 #[], ty, pos, after, g⟩ [] [(p, (X, .gone))] (.sl X 0 0) [(p, (X, .row te sz []))] := by
  refine OpT.new_ (fun m a hx => ?_)
  refine ⟨#[], 0, .slice (some ⟨m.w.heap.size, 0, none⟩) 0 0, ?_, by simp, by simp, by decide, by simp, ⟨by simp, rfl⟩, .inr ⟨0, rfl, Nat.le_refl _, rfl⟩⟩
  have hr : (Instr.buildSlice t 0 #[]).run P m.w = .ok (.slice (some ⟨m.w.heap.size, 0, none⟩) 0 0) (m.w.alloc (.cells #[] te)) := by
    simp [Instr.buildSlice, run_underlying (tElem_spec he), run_sizeOf hsz, Sem.run_bind, Result.andThen_ok, Sem.run_pure, Instr.fill, newRow]
    rw [show ∀ f : Nat → Value, Array.map f (Array.range 0) = #[] from fun f => Array.size_eq_zero_iff.1 (by simp)]
  simp [execOp, Sem.run_bind, hr, Sem.run_pure, Result.andThen_ok]
/-- An operation whose result is one of several values. -/
theorem AOps.val {o : Oper} {xs : List (Operand × AV)} {K : AV → Prop} (hg : o.guard = none) (hnd : ∀ c, o.op ≠ .defer c) (h : ∀ (m : Mem) (a : Act), (∀ q ∈ xs, VV m q.2 (a.eval q.1) []) → ∃ u v, (execOp a.eval o).run P m.w = .ok (.value u) m.w ∧ VV m v u [] ∧ K v) (hx : Evs T xs) (hd : dstOk o.dst nt = true)
    (k : ∀ v, K v → AOps ro P nt ops Q rest ⟨putD T o.dst v, S⟩) : AOps ro P nt ops Q (o :: rest) ⟨T, S⟩ := by
  rintro m0 a w ⟨m, N, Z, rfl, h2, h3, h4⟩
  refine wpListIn_plain hg fun K' hK => ⟨fun _ _ => trivial, ?_⟩
  obtain ⟨u, v, h5, h6, h7⟩ := h m a fun q hq => h4.ev (hx.all q hq)
  rw [Oper.semAt_eq _ _ _ hnd, h5]
  exact hK _ _ (k v h7 m0 _ _ ⟨m, N, Z, rfl, h2, h3, h4.put (dstOk_lt hd) h6⟩)
theorem AOps.isNil [TEl P t te] (k : ∀ b : Bool, (b = true → l = []) → AOps ro P nt ops Q rest ⟨putD T dst (.prim (.bool b)), S⟩) {t' : TypeId} (hx : ev T x = some (.lst false t' sz l) := by rfl) (hd : dstOk dst nt = true := by rfl) : AOps ro P nt ops Q (⟨dst, .binOp .eql t x (.const (.slice none 0 0)) t, ty, pos, after, none⟩ :: rest) ⟨T, S⟩ := by
  refine AOps.val (xs := [(x, .lst false t' sz l)]) (K := fun v => ∃ b : Bool, (b = true → l = []) ∧ v = .prim (.bool b)) rfl (by simp) (fun m a hv => ?_) (.cons hx .nil) hd fun v ⟨b, hb, e⟩ => e ▸ k b hb
  obtain ⟨_, A, cap, e1, _, _, h0⟩ := hv _ (List.mem_cons_self ..)
  injection e1 with e1
  simp only at e1
  refine ⟨.bool A.isNone, .prim (.bool A.isNone), ?_, vv_prim _, A.isNone, fun hn => ?_, rfl⟩
  · have := Lib.run_eql_slice_nil (P := P) m.w t te A l.length cap 0 0 (tElem_spec TEl.h)
    have hc : a.eval (.const (.slice none 0 0)) = .slice none 0 0 := rfl
    have hq : (eqGuard .eql t x (.const (.slice none 0 0)) (.slice A l.length cap) (.slice none 0 0)).run P m.w = .ok () m.w := rfl
    simp [execOp, e1, hc, Sem.run_bind, Sem.run_pure, Result.andThen_ok, this, hq]
  · cases l with
    | nil => rfl
    | cons a l =>
      obtain ⟨b, off, arr, t, r, e2, _⟩ := h0 (by simp)
      rw [e2] at hn
      cases hn
/-- An empty literal. -/
theorem AOps.goL0 [TEl P t te] [TSize P te sz] (k : ∀ X, AOps ro P nt ops Q rest ⟨putD T dst (.sl X 0 0), (X, .row te sz []) :: S⟩) (hd : dstOk dst nt = true := by rfl) : AOps ro P nt ops Q (⟨dst, .buildSlice t 0 #[], ty, pos, after, none⟩ :: rest) ⟨T, S⟩ :=
  AOps.rs fun X => AOps.step (o := ⟨dst, .buildSlice t 0 #[], ty, pos, after, none⟩) (xs := []) (rS := [(0, (X, .gone))]) rfl (OpT.lit0 TEl.h TSize.h) .nil (.cons .here .nil) hd (k X)
section
variable {Si Sl Sf : List Slot} {yv : Value} {xs : List (List AV)} {J : Nat → List Slot → Prop} {Jx : List Slot → Prop} {ats : Array TypeId} {i : Nat} {x0 x1 : Operand} {v0 v1 : AV}
end
/-- A slice that is made, its elements as we say them. -/
theorem AOps.goM {kk kk' : IntKind} {zl : List Value} {ag : Bool} {m by_ : Nat} {i j : Int} (a : AV) [TEl P t te] [TZe P te zl] [TSize P te sz] [TAg P te ag] [TBy P te by_] (k : ∀ X, AOps ro P nt ops Q rest ⟨putD T dst (.sl X 0 m), (X, .row te sz (List.replicate m a)) :: S⟩)
    (hx : Rd none T x (.prim (.int kk i)) := by rfl) (hy : Rd none T y (.prim (.int kk' j)) := by rfl) (hq : i = (m : Int) := by rfl) (hq' : j = (m : Int) := by rfl) (hm : m ≤ 1099511627776 := by first | assumption | omega | (simp; omega)) (hby : by_ ≤ 128 := by decide) (hzs : zl.length = sz := by exact rfl) (hag : ag = true ∨ zl.length = 1 := by first | exact .inl rfl | exact .inr rfl) (hz : zAV zl ag = a := by exact rfl) (hd : dstOk dst nt = true := by rfl) : AOps ro P nt ops Q (⟨dst, .makeSlice t x y, ty, pos, after, none⟩ :: rest) ⟨T, S⟩ := by
  subst hz
  exact AOps.rs fun X => AOps.s (W.make hx hy .here hzs hag hq hq' (Nat.le_refl _) (Nat.le_trans (Nat.mul_le_mul hby hm) (by decide)) (Nat.le_trans hm (by decide))) hd (k X)
theorem AOps.g_make {st : St} (k : AOps ro P nt ops Q (⟨dst, .makeSlice t x y, ty, pos, after, g⟩ :: rest) st) : AOps ro P nt ops Q (⟨dst, .makeSlice t x y, ty, pos, after, g⟩ :: rest) st := k
end
end Go.Proofs.YtkoehhpfjpdkcaaGreat

namespace Go.Proofs.YtkoehhpfjpdkcaaGreat
set_option linter.unusedVariables false
theorem Ends.void {P : Program} {Sf : List Slot} {Q : AV → List Slot → Prop} {st : St} (S' : List Slot) (hQ : Q (.tup []) S') (hS : (S' ++ Sf).Sublist st.S := by (repeat (first | exact List.Sublist.refl _ | exact List.Sublist.slnil | apply List.Sublist.cons_cons | apply List.Sublist.cons))) : Ends P [] Sf Q st := ⟨[], [], st.S, S', .nil, .nil, hS, hQ⟩
end Go.Proofs.YtkoehhpfjpdkcaaGreat

namespace Go.Proofs.YtkoehhpfjpdkcaaGreat
set_option linter.unusedVariables false
set_option linter.unusedSimpArgs false
variable {ro : Option Nat}
open Go.RowKit

/-! ### several places of a list -/
def setZ {β : Type} (Z : List β) : List (Nat × β) → List β
  | [] => Z
  | q :: r => setZ (Z.set q.1 q.2) r
theorem setZ_len {β : Type} (wz : List (Nat × β)) : ∀ Z : List β, (setZ Z wz).length = Z.length := by
  induction wz with
  | nil => intro Z; rfl
  | cons q r ih => intro Z; simp [setZ, ih]
theorem setZ_ne {β : Type} (wz : List (Nat × β)) {p : Nat} (h : p ∉ wz.map (·.1)) : ∀ Z : List β, (setZ Z wz)[p]? = Z[p]? := by
  induction wz with
  | nil => intro Z; rfl
  | cons q r ih =>
    intro Z
    simp only [List.map_cons, List.mem_cons, not_or] at h
    rw [setZ, ih h.2, List.getElem?_set_ne (fun e => h.1 e.symm)]
theorem setZ_at {β : Type} (wz : List (Nat × β)) (hnd : (wz.map (·.1)).Nodup) : ∀ Z : List β, (∀ q ∈ wz, q.1 < Z.length) → ∀ q ∈ wz, (setZ Z wz)[q.1]? = some q.2 := by
  induction wz with
  | nil => intro Z _ q hq; cases hq
  | cons a r ih =>
    intro Z hlt q hq
    rw [List.map_cons, List.nodup_cons] at hnd
    rcases List.mem_cons.1 hq with rfl | hq
    · rw [setZ, setZ_ne r hnd.1, List.getElem?_set_self (hlt _ (by simp))]
    · exact ih hnd.2 _ (fun q hq => by rw [List.length_set]; exact hlt q (by simp [hq])) q hq
theorem setAll_setZ (wS : List (Nat × Slot)) : ∀ S, setAll S wS = setZ S wS := by
  induction wS with
  | nil => intro S; rfl
  | cons q r ih => intro S; exact ih _
theorem perm_of_mem {l k : List Nat} (hl : l.Nodup) (hk : k.Nodup) (h : ∀ x, x ∈ l ↔ x ∈ k) : l.Perm k := by
  rw [List.perm_iff_count]
  intro a
  rw [hl.count, hk.count]
  simp only [h a]
theorem map_range_get {β : Type} (Z : List β) : (List.range Z.length).map (fun i => Z[i]?) = Z.map some := by
  apply List.ext_getElem (by simp)
  intro i h1 h2
  have : i < Z.length := by simpa using h1
  simp [this]
/-- The places ps of a list, and the rest. -/
theorem perm_gets {β : Type} (Z : List β) (ps : List Nat) (hnd : ps.Nodup) (hlt : ∀ p ∈ ps, p < Z.length) : ∃ R, ∀ wz : List (Nat × β), wz.map (·.1) = ps → (setZ Z wz).Perm (wz.map (·.2) ++ R) := by
  let Q := (List.range Z.length).filter fun i => !decide (i ∈ ps)
  refine ⟨Q.filterMap fun i => Z[i]?, fun wz hw => ?_⟩
  have hwn : (wz.map (·.1)).Nodup := by rw [hw]; exact hnd
  have hwl : ∀ q ∈ wz, q.1 < Z.length := fun q hq => hlt _ (by rw [← hw]; exact List.mem_map_of_mem hq)
  have h1 : (List.range Z.length).Perm (ps ++ Q) := by
    refine (List.filter_append_perm (fun i => decide (i ∈ ps)) (List.range Z.length)).symm.trans ?_
    refine List.Perm.append_right _ (perm_of_mem (List.nodup_range.filter _) hnd fun x => ?_)
    simp only [List.mem_filter, List.mem_range, decide_eq_true_eq]
    exact ⟨fun h => h.2, fun h => ⟨hlt x h, h⟩⟩
  have h2 : ((setZ Z wz).map some).Perm ((ps ++ Q).map fun i => (setZ Z wz)[i]?) := by
    rw [← map_range_get, setZ_len]
    exact h1.map _
  have h3 : ps.map (fun i => (setZ Z wz)[i]?) = (wz.map (·.2)).map some := by
    rw [← hw, List.map_map, List.map_map]
    exact List.map_congr_left fun q hq => setZ_at wz hwn Z hwl q hq
  have h4 : Q.map (fun i => (setZ Z wz)[i]?) = (Q.filterMap fun i => Z[i]?).map some := by
    have : ∀ L : List Nat, (∀ i ∈ L, i ∉ ps ∧ i < Z.length) → L.map (fun i => (setZ Z wz)[i]?) = (L.filterMap fun i => Z[i]?).map some := by
      intro L
      induction L with
      | nil => intro _; rfl
      | cons i L ih =>
        intro h
        have hi := h i (by simp)
        rw [List.map_cons, ih fun j hj => h j (by simp [hj]), setZ_ne wz (by rw [hw]; exact hi.1), List.getElem?_eq_getElem hi.2, List.filterMap_cons, List.getElem?_eq_getElem hi.2]
        rfl
    refine this Q fun i hi => ?_
    have := List.mem_filter.1 hi
    simpa using And.comm.1 this
  rw [List.map_append, h3, h4, ← List.map_append] at h2
  have h5 := h2.filterMap id
  simpa [List.filterMap_map] using h5

/-! ### what a value owns becomes objects -/
inductive TW : AV → AV → List Slot → Prop
  | frz {a : AV} : TW a a.frz []
  | lst {t : TypeId} {sz : Nat} {l : List AV} {Y n : Nat} (h : n = l.length) : TW (.lst true t sz l) (.sl Y 0 n) [(Y, .row t sz l)]
  | bx {t : TypeId} {a : AV} {Y n : Nat} (h : n = a.width) : TW (.bx t a) (.ptr Y 0 0) [(Y, .row t n [a])]
inductive TWs : List AV → List AV → List Slot → Prop
  | nil : TWs [] [] []
  | cons {a b : AV} {as bs : List AV} {s r : List Slot} (h : TW a b s) (k : TWs as bs r) : TWs (a :: as) (b :: bs) (s ++ r)
inductive TV : AV → AV → List Slot → Prop
  | cell {a b : AV} {s : List Slot} (h : TW a b s) (ha : cellish a = true) (hb : cellish b = true) : TV a b s
  | agg {as bs : List AV} {s : List Slot} (h : TWs as bs s) : TV (.agg as) (.agg bs) s
inductive TVs : List AV → List AV → List Slot → Prop
  | nil : TVs [] [] []
  | cons {a b : AV} {as bs : List AV} {s r : List Slot} (h : TV a b s) (ha : ntup a = true) (hb : ntup b = true) (k : TVs as bs r) : TVs (a :: as) (b :: bs) (s ++ r)
inductive TR : AV → AV → List Slot → Prop
  | frz {a : AV} : TR a a.frz []
  | v {a b : AV} {s : List Slot} (h : TV a b s) : TR a b s
  | tup {as bs : List AV} {s : List Slot} (h : TVs as bs s) : TR (.tup as) (.tup bs) s
def gones (s : List Slot) : List Slot := s.map fun e => (e.1, .gone)
section
variable {m0 m : Mem} {N : Nat} {R : Zs} {ex : List Nat}
/-- Blocks on the side become a new object at a stamp that was kept. -/
theorem Good.own1 {Y : Nat} {bsY br : List Nat} {t : TypeId} {sz : Nat} {l : List AV} (G : Good m0 m N (((Y, .gone), bsY) :: R) (br ++ ex)) (L : Loc) (hL : L.sz = sz)
    (h : (L.isNil = true ∧ l = [] ∧ br = []) ∨ (L.isNil = false ∧ ∃ arr bs', br = L.blk :: bs' ∧ m.w.heap[L.blk]? = some (.cells arr t (0, 0)) ∧ arr.size = L.cap * sz ∧ l.length ≤ L.cap ∧ L.cap ≤ maxLen ∧ (∀ e ∈ l, e.width = sz) ∧ VCs m l (arr.toList.take (l.length * sz)) bs')) :
    Good m0 ⟨fun y => if y = Y then some L else m.μ y, fun y => m.U y ∨ y = Y, m.w, m.F⟩ N (((Y, .row t sz l), br) :: R) ex ∧ m.Le ⟨fun y => if y = Y then some L else m.μ y, fun y => m.U y ∨ y = Y, m.w, m.F⟩ := by
  have hg := G.obj _ (List.mem_cons_self ..)
  obtain ⟨rfl, hYU⟩ := hg
  have hle : m.Le ⟨fun y => if y = Y then some L else m.μ y, fun y => m.U y ∨ y = Y, m.w, m.F⟩ := by
    refine ⟨fun y h => .inl h, fun y L' hy hL => ?_, fun b hb => ⟨hb, rfl⟩⟩
    simp only at hL
    split at hL
    · rename_i e; subst e; exact absurd hy hYU
    · exact hL
  refine ⟨?_, hle⟩
  have hkN : Y < N := G.keyN Y (by simp [Zs.keys])
  have hown : (br ++ ex).Nodup := by
    have := G.own
    rw [List.nodup_append] at this
    exact this.2.1
  refine Good.swap (zs := [((Y, .gone), [])]) (zs' := [((Y, .row t sz l), br)]) (R := R) G hle (Nat.le_refl _) (fun y hy _ => ?_) (fun _ _ _ _ => rfl) ?_ (by simpa [Zs.own] using hown) (fun b hb => ?_) (fun b hb => ⟨G.frz b hb, .inl hb⟩) (by simp [Zs.keys]) (fun y hy => ?_) (fun y hy => ?_) rfl rfl rfl (Nat.le_refl _)
  · simp only [Zs.keys, List.map_cons, List.map_nil, List.mem_singleton] at hy
    simp only
    rw [if_neg hy]
  · intro z hz
    simp only [List.mem_singleton] at hz
    subst hz
    refine ⟨.inr rfl, L, by simp, hL, ?_⟩
    rcases h with h | ⟨h1, arr, bs', e1, e2, e3, e4, e5, e6, e7⟩
    · exact .inl h
    · exact .inr ⟨h1, arr, bs', e1, e2, e3, e4, e5, e6, VCs.mono hle l (fun _ _ => rfl) e7⟩
  · have hb' : b ∈ br ++ ex := by simpa [Zs.own] using hb
    have := G.blk b (List.mem_append_right _ hb')
    exact ⟨this.1, this.2, .inr (.inl hb')⟩
  · simp only [Zs.keys, List.map_cons, List.map_nil, List.mem_singleton] at hy
    subst hy
    exact ⟨hkN, .inl (by simp [Zs.keys])⟩
  · rcases hy with hy | rfl
    · exact ⟨G.usedN y hy, .inl hy⟩
    · exact ⟨hkN, .inr (.inl (by simp [Zs.keys]))⟩
theorem TW.sound {a b : AV} {s : List Slot} (h : TW a b s) : ∀ {m : Mem} {br ex : List Nat} {G : Zs} {c : List Value}, G.map (·.1) = gones s → Good m0 m N (G ++ R) (br ++ ex) → VC m a c br →
    ∃ m' Z', m'.w = m.w ∧ Z'.map (·.1) = s ∧ Good m0 m' N (Z' ++ R) ex ∧ m.Le m' ∧ VC m' b c [] := by
  intro m br ex G c hG g hv
  cases h with
  | frz =>
    have : G = [] := by simpa [gones] using hG
    subst this
    obtain ⟨G2, hle⟩ := g.freeze _ rfl
    exact ⟨{ m with F := fun b => m.F b ∨ b ∈ br }, [], rfl, rfl, G2, hle, VC.frz hle a (fun b hb => ⟨.inr hb, rfl⟩) hv⟩
  | @lst t sz l Y n hn =>
    cases G with
    | nil => simp [gones] at hG
    | cons z G =>
      simp only [gones, List.map_cons, List.map_nil, List.cons.injEq, List.map_eq_nil_iff] at hG
      obtain ⟨hz, rfl⟩ := hG
      obtain ⟨⟨y, o⟩, bsY⟩ := z
      simp only [Prod.mk.injEq] at hz
      obtain ⟨rfl, rfl⟩ := hz
      rcases hv with ⟨rfl, rfl, rfl⟩ | ⟨gb, cap, arr, bs', rfl, rfl, e1, e2, e3, e4, e5, e6⟩
      · obtain ⟨G', hle⟩ := Good.own1 (br := []) (t := t) (sz := sz) (l := []) g ⟨0, 0, sz, true⟩ rfl (.inl ⟨rfl, rfl, rfl⟩)
        refine ⟨(⟨fun x => if x = y then some ⟨0, 0, sz, true⟩ else m.μ x, fun x => m.U x ∨ x = y, m.w, m.F⟩ : Mem), [((y, .row t sz []), [])], rfl, rfl, G', hle, rfl, .inr rfl, none, 0, by rw [hn]; rfl, fun L hL => ?_⟩
        simp only [if_true, Option.some.injEq] at hL
        subst hL
        exact .inl ⟨rfl, by rw [hn]; rfl, rfl, hn⟩
      · obtain ⟨G', hle⟩ := Good.own1 (br := gb :: bs') (t := t) (sz := sz) (l := l) g ⟨gb, cap, sz, false⟩ rfl (.inr ⟨rfl, arr, bs', rfl, e1, e2, e3, e4, e5, e6⟩)
        refine ⟨(⟨fun x => if x = y then some ⟨gb, cap, sz, false⟩ else m.μ x, fun x => m.U x ∨ x = y, m.w, m.F⟩ : Mem), [((y, .row t sz l), gb :: bs')], rfl, rfl, G', hle, rfl, .inr rfl, _, cap, by rw [hn], fun L hL => ?_⟩
        simp only [if_true, Option.some.injEq] at hL
        subst hL
        exact .inr ⟨rfl, by simp only; omega, 0, by simp, fun _ => by simp⟩
  | @bx t a Y n hn =>
    cases G with
    | nil => simp [gones] at hG
    | cons z G =>
      simp only [gones, List.map_cons, List.map_nil, List.cons.injEq, List.map_eq_nil_iff] at hG
      obtain ⟨hz, rfl⟩ := hG
      obtain ⟨⟨y, o⟩, bsY⟩ := z
      simp only [Prod.mk.injEq] at hz
      obtain ⟨rfl, rfl⟩ := hz
      obtain ⟨gb, arr, bs', rfl, rfl, e1, ⟨cap, e2, e3, e4⟩, e5⟩ := hv
      subst hn
      obtain ⟨G', hle⟩ := Good.own1 (br := gb :: bs') (t := t) (sz := a.width) (l := [a]) g ⟨gb, cap, a.width, false⟩ rfl (.inr ⟨rfl, arr, bs', rfl, e1, e2, e3, e4, fun e he => by rw [List.mem_singleton.1 he], by simpa using VCs.one.2 e5⟩)
      refine ⟨(⟨fun x => if x = y then some ⟨gb, cap, a.width, false⟩ else m.μ x, fun x => m.U x ∨ x = y, m.w, m.F⟩ : Mem), [((y, .row t a.width [a]), gb :: bs')], rfl, rfl, G', hle, rfl, .inr rfl, _, rfl, fun L hL => ?_⟩
      simp only [if_true, Option.some.injEq] at hL
      subst hL
      simp
theorem TWs.sound {as bs : List AV} {s : List Slot} (h : TWs as bs s) : ∀ {R : Zs} {m : Mem} {br ex : List Nat} {G : Zs} {c : List Value}, G.map (·.1) = gones s → Good m0 m N (G ++ R) (br ++ ex) → VCs m as c br →
    ∃ m' Z', m'.w = m.w ∧ Z'.map (·.1) = s ∧ Good m0 m' N (Z' ++ R) ex ∧ m.Le m' ∧ VCs m' bs c [] := by
  induction h with
  | nil =>
    intro R m br ex G c hG g hv
    obtain ⟨rfl, rfl⟩ := hv
    have : G = [] := by simpa [gones] using hG
    subst this
    exact ⟨m, [], rfl, rfl, g, .refl _, rfl, rfl⟩
  | @cons a b as bs s r h k ih =>
    intro R m br ex G c hG g hv
    obtain ⟨c1, c2, b1, b2, rfl, rfl, h1, h2⟩ := hv
    rw [gones, List.map_append] at hG
    obtain ⟨G1, G2, rfl, hG1, hG2⟩ := slots_split hG
    obtain ⟨m1, Z1, hw1, hZ1, g1, hle1, v1⟩ := h.sound (R := G2 ++ R) (ex := b2 ++ ex) hG1 (by simpa using g) h1
    have g1' : Good m0 m1 N (G2 ++ (Z1 ++ R)) (b2 ++ ex) := g1.perm (by
      rw [← List.append_assoc, ← List.append_assoc]
      exact List.Perm.append_right _ List.perm_append_comm)
    obtain ⟨m2, Z2, hw2, hZ2, g2, hle2, v2⟩ := ih (R := Z1 ++ R) hG2 g1' (VCs.mono hle1 as (fun b _ => by rw [hw1]) h2)
    refine ⟨m2, Z1 ++ Z2, hw2.trans hw1, by simp [hZ1, hZ2], g2.perm (by
      rw [← List.append_assoc]
      exact List.Perm.append_right _ List.perm_append_comm), hle1.trans hle2, c1, c2, [], [], rfl, rfl, VC.mono hle2 b (fun _ hb => by cases hb) v1, v2⟩
theorem TV.sound {a b : AV} {s : List Slot} (h : TV a b s) : ∀ {R : Zs} {m : Mem} {br ex : List Nat} {G : Zs} {u : Value}, G.map (·.1) = gones s → Good m0 m N (G ++ R) (br ++ ex) → VV m a u br →
    ∃ m' Z', m'.w = m.w ∧ Z'.map (·.1) = s ∧ Good m0 m' N (Z' ++ R) ex ∧ m.Le m' ∧ VV m' b u [] := by
  intro R m br ex G u hG g hv
  cases h with
  | cell h ha hb =>
    obtain ⟨m', Z', h1, h2, h3, h4, h5⟩ := h.sound hG g ((VV.of_vc ha).1 hv)
    exact ⟨m', Z', h1, h2, h3, h4, (VV.of_vc hb).2 h5⟩
  | agg h =>
    obtain ⟨cells, rfl, hv⟩ := hv
    obtain ⟨m', Z', h1, h2, h3, h4, h5⟩ := h.sound hG g hv
    exact ⟨m', Z', h1, h2, h3, h4, cells, rfl, h5⟩
theorem TVs.sound {as bs : List AV} {s : List Slot} (h : TVs as bs s) : ∀ {R : Zs} {m : Mem} {br ex : List Nat} {G : Zs} {us : List Value}, G.map (·.1) = gones s → Good m0 m N (G ++ R) (br ++ ex) → VTs m as us br →
    ∃ m' Z', m'.w = m.w ∧ Z'.map (·.1) = s ∧ Good m0 m' N (Z' ++ R) ex ∧ m.Le m' ∧ VTs m' bs us [] := by
  induction h with
  | nil =>
    intro R m br ex G c hG g hv
    obtain ⟨rfl, rfl⟩ := hv
    have : G = [] := by simpa [gones] using hG
    subst this
    exact ⟨m, [], rfl, rfl, g, .refl _, rfl, rfl⟩
  | @cons a b as bs s r h ha hb k ih =>
    intro R m br ex G c hG g hv
    obtain ⟨u, us, b1, b2, rfl, rfl, h1, h2⟩ := (VTs_cons ha).1 hv
    rw [gones, List.map_append] at hG
    obtain ⟨G1, G2, rfl, hG1, hG2⟩ := slots_split hG
    obtain ⟨m1, Z1, hw1, hZ1, g1, hle1, v1⟩ := h.sound (R := G2 ++ R) (ex := b2 ++ ex) hG1 (by simpa using g) h1
    have g1' : Good m0 m1 N (G2 ++ (Z1 ++ R)) (b2 ++ ex) := g1.perm (by
      rw [← List.append_assoc, ← List.append_assoc]
      exact List.Perm.append_right _ List.perm_append_comm)
    obtain ⟨m2, Z2, hw2, hZ2, g2, hle2, v2⟩ := ih (R := Z1 ++ R) hG2 g1' (VTs.mono hle1 as (fun b _ => by rw [hw1]) h2)
    refine ⟨m2, Z1 ++ Z2, hw2.trans hw1, by simp [hZ1, hZ2], g2.perm (by
      rw [← List.append_assoc]
      exact List.Perm.append_right _ List.perm_append_comm), hle1.trans hle2, (VTs_cons hb).2 ⟨u, us, [], [], rfl, rfl, VV.mono hle2 (fun _ hb => by cases hb) v1, v2⟩⟩
theorem TR.sound {a b : AV} {s : List Slot} (h : TR a b s) {R : Zs} {m : Mem} {br ex : List Nat} {G : Zs} {u : Value} (hG : G.map (·.1) = gones s) (g : Good m0 m N (G ++ R) (br ++ ex)) (hv : VV m a u br) :
    ∃ m' Z', m'.w = m.w ∧ Z'.map (·.1) = s ∧ Good m0 m' N (Z' ++ R) ex ∧ m.Le m' ∧ VV m' b u [] := by
  cases h with
  | frz =>
    have : G = [] := by simpa [gones] using hG
    subst this
    obtain ⟨G2, hle⟩ := g.freeze _ rfl
    exact ⟨{ m with F := fun b => m.F b ∨ b ∈ br }, [], rfl, rfl, G2, hle, VV.frz hle (fun b hb => ⟨.inr hb, rfl⟩) hv⟩
  | v h => exact h.sound hG g hv
  | tup h =>
    obtain ⟨us, rfl, hv⟩ := hv
    obtain ⟨m', Z', h1, h2, h3, h4, h5⟩ := h.sound hG g hv
    exact ⟨m', Z', h1, h2, h3, h4, us, rfl, h5⟩
end

theorem setZ_same {β : Type} (wz : List (Nat × β)) : ∀ Z : List β, (∀ q ∈ wz, Z[q.1]? = some q.2) → setZ Z wz = Z := by
  induction wz with
  | nil => intro Z _; rfl
  | cons q r ih =>
    intro Z h
    have h1 := h q (by simp)
    obtain ⟨h2, h3⟩ := List.getElem?_eq_some_iff.1 h1
    have : Z.set q.1 q.2 = Z := by rw [← h3]; exact List.set_getElem_self h2
    rw [setZ, this]
    exact ih Z fun q hq => h q (by simp [hq])
section
variable {P : Program} {ty : TypeId} {pos : String} {after : Array Edge} {g : Option (Nat × Bool)} {dst : Option Tmp} {xs : List (Operand × AV)} {f : FuncId} {ats : Array TypeId} {r v : AV} {Sin Sout news : List Slot} {rS wS : List (Nat × Slot)}
/-- What a call does to a state: for a callee by name or a closure; the result may be one of several. -/
theorem callG_runE {β : Type} {C : β → Prop} {rr vv : β → AV} {So nw : β → List Slot} {gs : List Slot} {wE : β → List (Nat × Slot)} {nt : Nat} {m0 : Mem} {T : List (Nat × AV)} {S : List Slot} {a : Act} {args : List AV} {vals : Array Value} (h : Spec P f args Sin fun r' S' => ∃ b, C b ∧ r' = rr b ∧ S' = So b) (hT : ∀ b, TR (rr b) (vv b) (nw b)) (hgs : ∀ b, gones (nw b) = gs) (hr : rS.map (·.2) = Sin ++ gs) (hw : ∀ b, (wE b).map (·.2) = So b ++ nw b) (hp : ∀ b, (wE b).map (·.1) = rS.map (·.1)) (hnd : (rS.map (·.1)).Nodup)
    (hS : ∀ q ∈ rS, S[q.1]? = some q.2) (hd : ∀ d, dst = some d → d < nt) {m : Mem} {N : Nat} {Z : Zs} (h2 : Z.map (·.1) = S) (h3 : Good m0 m N Z []) (h4 : TRel m0 m nt T a) (hv : VTs m args vals.toList []) :
    Calls P f vals m.w fun e w' => ∃ u, e = .returned u ∧ ∃ b, C b ∧ Rel nt m0 ⟨putD T dst (vv b), setAll S (wE b)⟩ (a.put dst u) w' := by
  obtain ⟨RS, hR⟩ := perm_gets S (rS.map (·.1)) hnd (fun p hp => by
    obtain ⟨q, hq, rfl⟩ := List.mem_map.1 hp
    exact (List.getElem?_eq_some_iff.1 (hS q hq)).1)
  have p1 := hR rS rfl
  rw [setZ_same rS S hS, hr, List.append_assoc] at p1
  obtain ⟨Z1, hz1, hz2⟩ := perm_lift (fun z : Slot × List Nat => z.1) p1 h2
  refine (h.run _ m N Z1 vals hz2 (h3.perm hz1).self hv).mono ?_
  rintro e w' ⟨u, r', S', m', N', Z', br, rfl, rfl, hm, G', hu, b, hb, rfl, rfl⟩
  have p2 := hR (wE b) (hp b)
  rw [hw, List.append_assoc, ← setAll_setZ] at p2
  obtain ⟨Zo, Zr, rfl, ho, hzr⟩ := slots_split hm
  obtain ⟨Zg, Zf, rfl, hg, hf⟩ := slots_split hzr
  have G1 := h3.perm hz1 |>.after G'
  have G2 : Good m0 m' N' (Zg ++ (Zo ++ Zf)) (br ++ []) := by
    have := G1.perm (Z' := Zg ++ (Zo ++ Zf)) (by
      rw [← List.append_assoc, ← List.append_assoc]
      exact List.Perm.append_right _ List.perm_append_comm)
    simpa using this
  obtain ⟨m2, Zn, hw2, hn, G3, hle, hv2⟩ := (hT b).sound (hg.trans (hgs b).symm) G2 hu
  have G4 := G3.perm (Z' := Zo ++ (Zn ++ Zf)) (by
    rw [← List.append_assoc, ← List.append_assoc]
    exact List.Perm.append_right _ List.perm_append_comm)
  obtain ⟨Z3, hz3, hz4⟩ := perm_lift (fun z : Slot × List Nat => z.1) (S' := setAll S (wE b)) p2.symm (Z := Zo ++ (Zn ++ Zf)) (by simp [ho, hn, hf])
  exact ⟨u, rfl, b, hb, m2, N', Z3, hw2, hz4, G4.perm hz3, ((h4.mono G'.le).mono hle).put hd hv2⟩
theorem callG_run {nt : Nat} {m0 : Mem} {T : List (Nat × AV)} {S : List Slot} {a : Act} {args : List AV} {vals : Array Value} (h : Spec P f args Sin fun r' S' => r' = r ∧ S' = Sout) (hT : TR r v news) (hr : rS.map (·.2) = Sin ++ gones news) (hw : wS.map (·.2) = Sout ++ news) (hp : wS.map (·.1) = rS.map (·.1)) (hnd : (rS.map (·.1)).Nodup)
    (hS : ∀ q ∈ rS, S[q.1]? = some q.2) (hd : ∀ d, dst = some d → d < nt) {m : Mem} {N : Nat} {Z : Zs} (h2 : Z.map (·.1) = S) (h3 : Good m0 m N Z []) (h4 : TRel m0 m nt T a) (hv : VTs m args vals.toList []) :
    Calls P f vals m.w fun e w' => ∃ u, e = .returned u ∧ Rel nt m0 ⟨putD T dst v, setAll S wS⟩ (a.put dst u) w' :=
  (callG_runE (β := Unit) (C := fun _ => True) (rr := fun _ => r) (vv := fun _ => v) (So := fun _ => Sout) (nw := fun _ => news) (wE := fun _ => wS) (h.mono fun r' S' ⟨e1, e2⟩ => ⟨(), trivial, e1, e2⟩) (fun _ => hT) (fun _ => rfl) hr (fun _ => hw) (fun _ => hp) hnd hS hd h2 h3 h4 hv).mono fun e w' ⟨u, e1, _, _, k⟩ => ⟨u, e1, k⟩
theorem wpIn_fwE {β : Type} {C : β → Prop} {sE : β → St} {ro : Option Nat} {nt : Nat} {m0 : Mem} {o : Oper} {a : Act} {w : World} {K : Act → World → Prop} {Q : Exit → Act → World → Prop} (hnd : ∀ c, o.op ≠ .defer c) (h : o.wp P a w (fun a' w' => ∃ b, C b ∧ Rel nt m0 (sE b) a' w') (fun _ _ _ => False)) (hK : ∀ a' w', (∃ b, C b ∧ Rel nt m0 (sE b) a' w') → K a' w') : o.wpIn (FW ro) 0 P a w K Q := by
  refine ⟨fun _ _ => trivial, ?_⟩
  rw [show o.semAt (FW ro).round a.eval = execOp a.eval o from Oper.semAt_eq _ _ _ hnd]
  unfold Oper.wp at h
  cases hr : (execOp a.eval o).run P w with
  | ok n w' =>
    rw [hr] at h
    cases n <;> simp only [Oper.upon, Oper.uponIn] at h ⊢ <;>
      first
        | exact hK _ _ h
        | exact ⟨fun h => (by simp [FW, Fence.wide] at h), CallsIn.mono (calls_fw h) (fun e w'' he => by cases e <;> first | exact hK _ _ he | exact he.elim | exact (by obtain ⟨_, _, hh⟩ := he; exact hh.elim))⟩
        | exact ⟨fun h => (by simp [FW, Fence.wide] at h), RowsIn.mono (rows_fw h) (fun _ _ he => hK _ _ he)⟩
  | halt x w' => rw [hr] at h; cases x <;> simp only [Oper.upon] at h
theorem OpT.callG (h : Spec P f (xs.map (·.2)) Sin fun r' S' => r' = r ∧ S' = Sout) (ht : noTup xs = true) (hT : TR r v news) (hr : rS.map (·.2) = Sin ++ gones news) (hw : wS.map (·.2) = Sout ++ news) (hp : wS.map (·.1) = rS.map (·.1)) (hnd : (rS.map (·.1)).Nodup) :
    OpT P ⟨dst, .call ⟨.value (.func f), (xs.map (·.1)).toArray, ats⟩, ty, pos, after, g⟩ xs rS v wS := by
  intro nt m0 T S a w hx hS hd hrel
  obtain ⟨m, N, Z, rfl, h2, h3, h4⟩ := hrel
  refine wp_call (fun _ => rfl) h.fn ?_
  exact callG_run h hT hr hw hp hnd hS hd h2 h3 h4 (by have := vts_of (noTup_spec ht) fun q hq => h4.ev (hx q hq); simpa [Function.comp_def] using this)
inductive Pos (S : List Slot) : List Slot → List Slot → List (Nat × Slot) → List (Nat × Slot) → Prop
  | nil : Pos S [] [] [] []
  | cons {a b : Slot} {as bs : List Slot} {rs ws : List (Nat × Slot)} {p : Nat} (h : At S p a) (k : Pos S as bs rs ws) : Pos S (a :: as) (b :: bs) ((p, a) :: rs) ((p, b) :: ws)
theorem Pos.all {S as bs : List Slot} {rs ws : List (Nat × Slot)} (h : Pos S as bs rs ws) : rs.map (·.2) = as ∧ ws.map (·.2) = bs ∧ ws.map (·.1) = rs.map (·.1) ∧ Gets S rs := by
  induction h with
  | nil => exact ⟨rfl, rfl, rfl, .nil⟩
  | cons h k ih => exact ⟨by simp [ih.1], by simp [ih.2.1], by simp [ih.2.2.1], .cons h ih.2.2.2⟩
/-- A call of which the result is one of several. -/
theorem AOps.callE {β : Type} {C : β → Prop} {rr vv : β → AV} {So nw : β → List Slot} {gs : List Slot} {wE : β → List (Nat × Slot)} {nt : Nat} {ops : Array Oper} {Q : Exit → St → Prop} {rest : List Oper} {T : List (Nat × AV)} {S : List Slot} (h : Spec P f (xs.map (·.2)) Sin fun r' S' => ∃ b, C b ∧ r' = rr b ∧ S' = So b) (hT : ∀ b, TR (rr b) (vv b) (nw b)) (hgs : ∀ b, gones (nw b) = gs) (hpos : ∀ b, Pos S (Sin ++ gs) (So b ++ nw b) rS (wE b)) (hnd : (rS.map (·.1)).Nodup) (hr : rS.map (·.2) = Sin ++ gs) (hG : Gets S rS) (hx : Evs T xs) (ht : noTup xs = true) (hd : dstOk dst nt = true)
    (k : ∀ b, C b → AOps ro P nt ops Q rest ⟨putD T dst (vv b), setAll S (wE b)⟩) : AOps ro P nt ops Q (⟨dst, .call ⟨.value (.func f), (xs.map (·.1)).toArray, ats⟩, ty, pos, after, none⟩ :: rest) ⟨T, S⟩ := by
  rintro m0 a w ⟨m, N, Z, rfl, h2, h3, h4⟩
  refine wpListIn_plain rfl fun K hK => wpIn_fwE (C := C) (sE := fun b => ⟨putD T dst (vv b), setAll S (wE b)⟩) (by simp) (wp_call (fun _ => rfl) h.fn (callG_runE h hT hgs hr (fun b => (hpos b).all.2.1) (fun b => (hpos b).all.2.2.1) hnd hG.all (dstOk_lt hd) h2 h3 h4 ?_)) fun a' w' ⟨b, hb, hrel⟩ => hK _ _ (k b hb m0 _ _ hrel)
  have := vts_of (noTup_spec ht) fun q hq => h4.ev (hx.all q hq)
  simpa [Function.comp_def] using this
theorem TR.fz {r v : AV} [h : Frz r v] : TR r v [] := h.h ▸ .frz
theorem TR.ls {t : TypeId} {sz : Nat} {l : List AV} {Y : Nat} : TR (.lst true t sz l) (.sl Y 0 l.length) [(Y, .row t sz l)] := .v (.cell (.lst rfl) rfl rfl)
end
/-! ### one cell of a row's values -/
mutual
/-- The cell a of a value is b in the other one. -/
inductive Ho (a b : AV) : AV → AV → Prop
  | here : Ho a b a b
  | agg {as bs : List AV} (h : Hos a b as bs) : Ho a b (.agg as) (.agg bs)
inductive Hos (a b : AV) : List AV → List AV → Prop
  | head {x y : AV} {as : List AV} (h : Ho a b x y) : Hos a b (x :: as) (y :: as)
  | tail {x : AV} {as bs : List AV} (h : Hos a b as bs) : Hos a b (x :: as) (x :: bs)
end
mutual
theorem Ho.vc {a b : AV} {m : Mem} : {x y : AV} → Ho a b x y → {c : List Value} → {bs : List Nat} → VC m x c bs →
    ∃ c0 B bs', bs.Perm (B ++ bs') ∧ VC m a c0 B ∧ ∀ m' B', m.Le m' → m'.w = m.w → VC m' b c0 B' → ∃ bs2, bs2.Perm (B' ++ bs') ∧ VC m' y c bs2
  | _, _, .here, c, bs, h => ⟨c, bs, [], by simp, h, fun m' B' _ _ k => ⟨B', by simp, k⟩⟩
  | _, _, .agg h, c, bs, k => Hos.vcs h k
theorem Hos.vcs {a b : AV} {m : Mem} : {x y : List AV} → Hos a b x y → {c : List Value} → {bs : List Nat} → VCs m x c bs →
    ∃ c0 B bs', bs.Perm (B ++ bs') ∧ VC m a c0 B ∧ ∀ m' B', m.Le m' → m'.w = m.w → VC m' b c0 B' → ∃ bs2, bs2.Perm (B' ++ bs') ∧ VCs m' y c bs2
  | _, _, .head (as := as) h, _, _, ⟨c1, c2, b1, b2, e1, e2, h1, h2⟩ => by
    obtain ⟨c0, B, bs', hp, hv, k⟩ := Ho.vc h h1
    refine ⟨c0, B, bs' ++ b2, by rw [e2, ← List.append_assoc]; exact hp.append_right _, hv, fun m' B' hle hw hb => ?_⟩
    obtain ⟨bs2, hp2, hv2⟩ := k m' B' hle hw hb
    exact ⟨bs2 ++ b2, by rw [← List.append_assoc]; exact hp2.append_right _, c1, c2, bs2, b2, e1, rfl, hv2, VCs.mono hle as (fun _ _ => by rw [hw]) h2⟩
  | _, _, .tail (x := x) h, _, _, ⟨c1, c2, b1, b2, e1, e2, h1, h2⟩ => by
    obtain ⟨c0, B, bs', hp, hv, k⟩ := Hos.vcs h h2
    refine ⟨c0, B, b1 ++ bs', ?_, hv, fun m' B' hle hw hb => ?_⟩
    · rw [e2]
      refine (hp.append_left _).trans ?_
      rw [← List.append_assoc, ← List.append_assoc]
      exact List.perm_append_comm.append_right _
    · obtain ⟨bs2, hp2, hv2⟩ := k m' B' hle hw hb
      refine ⟨b1 ++ bs2, ?_, c1, c2, b1, bs2, e1, rfl, VC.mono hle x (fun _ _ => by rw [hw]) h1, hv2⟩
      refine (hp2.append_left _).trans ?_
      rw [← List.append_assoc, ← List.append_assoc]
      exact List.perm_append_comm.append_right _
end
mutual
theorem Ho.width {a b : AV} (h0 : b.width = a.width) : {x y : AV} → Ho a b x y → y.width = x.width
  | _, _, .here => h0
  | _, _, .agg h => Hos.widths h0 h
theorem Hos.widths {a b : AV} (h0 : b.width = a.width) : {x y : List AV} → Hos a b x y → AV.widths y = AV.widths x
  | _, _, .head h => by simp only [AV.widths]; rw [Ho.width h0 h]
  | _, _, .tail h => by simp only [AV.widths]; rw [Hos.widths h0 h]
end
theorem Hos.len {a b : AV} {x y : List AV} (h : Hos a b x y) : y.length = x.length := by
  induction x generalizing y with
  | nil => cases h
  | cons e x ih => cases h with
    | head h => rfl
    | tail h => simp [ih h]
theorem Hos.wd {a b : AV} (h0 : b.width = a.width) {x y : List AV} {n : Nat} (h : Hos a b x y) (hw : ∀ e ∈ x, e.width = n) : ∀ e ∈ y, e.width = n := by
  induction x generalizing y with
  | nil => cases h
  | cons e x ih => cases h with
    | head h =>
      intro z hz
      rcases List.mem_cons.1 hz with rfl | hz
      · rw [h.width h0]; exact hw e (by simp)
      · exact hw z (by simp [hz])
    | tail h =>
      intro z hz
      rcases List.mem_cons.1 hz with rfl | hz
      · exact hw _ (by simp)
      · exact ih h (fun e he => hw e (by simp [he])) z hz
/-- A row of which one cell is turned. -/
theorem Hos.orel {a b : AV} {m : Mem} {Y : Nat} {t2 : TypeId} {sz2 : Nat} {l2 l2' : List AV} {bs : List Nat} (hI : Hos a b l2 l2') (h0 : b.width = a.width) (h : ORel m Y (.row t2 sz2 l2) bs) :
    ∃ c0 B bs', bs.Perm (B ++ bs') ∧ VC m a c0 B ∧ ∀ m' B', m.Le m' → m'.w = m.w → (∀ L, m.μ Y = some L → m'.μ Y = some L) → VC m' b c0 B' → ∃ bs2, bs2.Perm (B' ++ bs') ∧ ORel m' Y (.row t2 sz2 l2') bs2 := by
  obtain ⟨hU, L, h1, h2, h3⟩ := h
  rcases h3 with ⟨h4, rfl, h5⟩ | ⟨h4, arr, bs', h5, h6, h7, h8, h9, h10, h11⟩
  · cases hI
  · obtain ⟨c0, B, bs1, hp, hv, k⟩ := hI.vcs h11
    refine ⟨c0, B, L.blk :: bs1, ?_, hv, fun m' B' hle hw hμ hb => ?_⟩
    · rw [h5]; exact (hp.cons _).trans List.perm_middle.symm
    · obtain ⟨bs2, hp2, hv2⟩ := k m' B' hle hw hb
      refine ⟨L.blk :: bs2, (hp2.cons _).trans List.perm_middle.symm, hle.U _ hU, L, hμ L h1, h2, .inr ⟨h4, arr, bs2, rfl, by rw [hw]; exact h6, h7, by rw [hI.len]; exact h8, h9, hI.wd h0 h10, ?_⟩⟩
      rw [hI.len]; exact hv2
section
variable {m0 m : Mem} {N : Nat} {R : Zs} {ex : List Nat}
/-- An own list as a new row. -/
theorem own_row {Y : Nat} {t : TypeId} {sz : Nat} {l : List AV} {c : List Value} {B : List Nat} (hY : ¬ m.U Y) (h : VC m (.lst true t sz l) c B) :
    ∃ m', (∀ x, x ≠ Y → m'.μ x = m.μ x) ∧ (∀ x, m'.U x ↔ (m.U x ∨ x = Y)) ∧ m'.w = m.w ∧ m'.F = m.F ∧ m.Le m' ∧ VC m' (.sl Y 0 l.length) c [] ∧ ORel m' Y (.row t sz l) B := by
  have key : ∀ L : Loc, m.Le ⟨fun x => if x = Y then some L else m.μ x, fun x => m.U x ∨ x = Y, m.w, m.F⟩ := fun L => by
    refine ⟨fun y h => .inl h, fun y L' hy hL => ?_, fun b hb => ⟨hb, rfl⟩⟩
    simp only at hL
    split at hL
    · rename_i e; subst e; exact absurd hy hY
    · exact hL
  rcases h with ⟨rfl, rfl, rfl⟩ | ⟨gb, cap, arr, bs', rfl, rfl, e1, e2, e3, e4, e5, e6⟩
  · refine ⟨⟨fun x => if x = Y then some ⟨0, 0, sz, true⟩ else m.μ x, fun x => m.U x ∨ x = Y, m.w, m.F⟩, fun x hx => by simp [hx], fun x => .rfl, rfl, rfl, key _, ⟨rfl, .inr rfl, none, 0, rfl, fun L hL => ?_⟩, .inr rfl, ⟨0, 0, sz, true⟩, by simp, rfl, .inl ⟨rfl, rfl, rfl⟩⟩
    simp only [if_true, Option.some.injEq] at hL
    subst hL
    exact .inl ⟨rfl, rfl, rfl, rfl⟩
  · refine ⟨⟨fun x => if x = Y then some ⟨gb, cap, sz, false⟩ else m.μ x, fun x => m.U x ∨ x = Y, m.w, m.F⟩, fun x hx => by simp [hx], fun x => .rfl, rfl, rfl, key _, ⟨rfl, .inr rfl, _, cap, rfl, fun L hL => ?_⟩, .inr rfl, ⟨gb, cap, sz, false⟩, by simp, rfl, .inr ⟨rfl, arr, bs', rfl, e1, e2, e3, e4, e5, VCs.mono (key _) l (fun _ _ => rfl) e6⟩⟩
    simp only [if_true, Option.some.injEq] at hL
    subst hL
    exact .inr ⟨rfl, by simp only; omega, 0, by simp, fun _ => by simp⟩
theorem nodup2 {A B ex : List Nat} {R : Zs} {z : Slot × List Nat} (G : Good m0 m N (z :: R) ex) (hp : z.2.Perm A) : (A ++ ex).Nodup ∧ ∀ b ∈ A ++ ex, b < m.w.heap.size ∧ ¬ m.F b ∧ (b ∈ z.2 ∨ b ∈ ex) := by
  have h := G.own
  simp only [own_cons] at h
  have h1 : (z.2 ++ ex).Nodup := by
    have : (z.2 ++ Zs.own R ++ ex).Perm ((z.2 ++ ex) ++ Zs.own R) := by
      rw [List.append_assoc, List.append_assoc]
      exact List.Perm.append_left _ List.perm_append_comm
    exact (List.nodup_append.1 (this.nodup_iff.1 h)).1
  refine ⟨(hp.append_right ex).nodup_iff.1 h1, fun b hb => ?_⟩
  have hb' := (hp.append_right ex).mem_iff.2 hb
  have := G.blk b (by simp only [own_cons]; rcases List.mem_append.1 hb' with h | h <;> simp [h])
  exact ⟨this.1, this.2, List.mem_append.1 hb'⟩
theorem nodupL {A ex : List Nat} {R zs : Zs} (G : Good m0 m N (zs ++ R) ex) (hp : zs.own.Perm A) : (A ++ ex).Nodup ∧ ∀ b ∈ A ++ ex, b < m.w.heap.size ∧ ¬ m.F b ∧ (b ∈ zs.own ∨ b ∈ ex) := by
  have h := G.own
  rw [own_append] at h
  have h1 : (zs.own ++ ex).Nodup := by
    have : (zs.own ++ Zs.own R ++ ex).Perm ((zs.own ++ ex) ++ Zs.own R) := by
      rw [List.append_assoc, List.append_assoc]
      exact List.Perm.append_left _ List.perm_append_comm
    exact (List.nodup_append.1 (this.nodup_iff.1 h)).1
  refine ⟨(hp.append_right ex).nodup_iff.1 h1, fun b hb => ?_⟩
  have hb' := (hp.append_right ex).mem_iff.2 hb
  have := G.blk b (by rw [own_append]; rcases List.mem_append.1 hb' with h | h <;> simp [h])
  exact ⟨this.1, this.2, List.mem_append.1 hb'⟩
/-- An own list inside a row's values becomes a row. -/
theorem Good.thawIn {Y : Nat} {t t2 : TypeId} {sz sz2 : Nat} {l l2 l2' : List AV} {bs : List Nat} (G : Good m0 m N (((Y, .row t2 sz2 l2), bs) :: R) ex) (hI : Hos (.lst true t sz l) (.sl N 0 l.length) l2 l2') :
    ∃ m' b1 b2, m'.w = m.w ∧ m.Le m' ∧ Good m0 m' (N + 1) (((N, .row t sz l), b1) :: ((Y, .row t2 sz2 l2'), b2) :: R) ex := by
  have hY : ORel m Y (.row t2 sz2 l2) bs := G.obj _ (List.mem_cons_self ..)
  have hYN : Y < N := G.keyN Y (by simp [Zs.keys])
  have hNU : ¬ m.U N := fun h => Nat.lt_irrefl _ (G.usedN _ h)
  obtain ⟨c0, B, bs', hp, hv, k⟩ := hI.orel rfl hY
  obtain ⟨m', hμ, hU, hw, hF, hle, hv', ho⟩ := own_row hNU hv
  obtain ⟨bs2, hp2, hoY⟩ := k m' [] hle hw (fun L hL => by rw [hμ Y (by omega)]; exact hL) hv'
  have hp3 : bs.Perm (B ++ bs2) := hp.trans (by simpa using hp2.symm.append_left B)
  obtain ⟨hn, hb⟩ := nodup2 (B := []) G hp3
  refine ⟨m', B, bs2, hw, hle, Good.swap (zs := [((Y, .row t2 sz2 l2), bs)]) (zs' := [((N, .row t sz l), B), ((Y, .row t2 sz2 l2'), bs2)]) (R := R) G hle (Nat.le_succ _) (fun x hx hxN => hμ x (by omega)) (fun b _ _ _ => by rw [hw]) ?_ (by simpa [Zs.own] using hn) (fun b h => ?_) (fun b h => ?_) ?_ ?_ (fun x hx => ?_) (by rw [hw]) (by rw [hw]) (by rw [hw]) (by rw [hw]; exact Nat.le_refl _)⟩
  · intro z hz
    simp only [List.mem_cons, List.not_mem_nil, or_false] at hz
    rcases hz with rfl | rfl
    · exact ho
    · exact hoY
  · obtain ⟨h1, h2, h3⟩ := hb b (by simpa [Zs.own] using h)
    rw [hw, hF]
    refine ⟨h1, h2, ?_⟩
    rcases h3 with h3 | h3
    · exact .inl (by simpa [Zs.own] using h3)
    · exact .inr (.inl h3)
  · rw [hF] at h
    rw [hw]
    exact ⟨G.frz b h, .inl h⟩
  · simp [Zs.keys]; omega
  · intro x hx
    simp only [Zs.keys, List.map_cons, List.map_nil, List.mem_cons, List.not_mem_nil, or_false] at hx
    rcases hx with rfl | rfl
    · exact ⟨by omega, .inr (Nat.le_refl _)⟩
    · exact ⟨by omega, .inl (by simp [Zs.keys])⟩
  · rcases (hU x).1 hx with hx | rfl
    · exact ⟨by have := G.usedN x hx; omega, .inl hx⟩
    · exact ⟨by omega, .inr (.inr (Nat.le_refl _))⟩
/-- A row becomes an own list inside another row's values. -/
theorem Good.closeIn {X Y n : Nat} {t t2 : TypeId} {sz sz2 : Nat} {l l2 l2' : List AV} {bX bs : List Nat} (G : Good m0 m N (((X, .row t sz l), bX) :: ((Y, .row t2 sz2 l2), bs) :: R) ex) (hn : n = l.length) (hI : Hos (.sl X 0 n) (.lst true t sz l) l2 l2') :
    ∃ m' b2, m'.w = m.w ∧ m.Le m' ∧ Good m0 m' N (((X, .used), []) :: ((Y, .row t2 sz2 l2'), b2) :: R) ex := by
  have hX : ORel m X (.row t sz l) bX := G.obj _ (List.mem_cons_self ..)
  have hY : ORel m Y (.row t2 sz2 l2) bs := G.obj ((Y, .row t2 sz2 l2), bs) (by simp)
  have hXY : Y ≠ X := by
    have := G.keys
    simp only [Zs.keys, List.map_cons, List.nodup_cons, List.mem_cons, not_or] at this
    exact fun e => this.1.1 e.symm
  let m' : Mem := ⟨fun x => if x = X then none else m.μ x, m.U, m.w, m.F⟩
  have hle : m.Le m' := by
    refine ⟨fun y h => h, fun y L' hy hL => ?_, fun b hb => ⟨hb, rfl⟩⟩
    simp only [m'] at hL
    split at hL
    · cases hL
    · exact hL
  obtain ⟨c0, B, bs', hp, hv, k⟩ := hI.orel rfl hY
  obtain ⟨rfl, hUX, A, q, rfl, hs⟩ := hv
  have hv' : VC m' (.lst true t sz l) [.slice A n q] bX := by
    obtain ⟨_, L, hL, hsz, hO⟩ := hX
    subst hn
    rcases hO with ⟨h1, rfl, rfl⟩ | ⟨h1, arr, bs', rfl, h2, h3, h4, h5, h6, h7⟩
    · rcases hs L hL with ⟨_, h, _⟩ | ⟨h, _⟩
      · rw [h]; exact .inl ⟨rfl, rfl, rfl⟩
      · rw [h1] at h; cases h
    · rcases hs L hL with ⟨h, _⟩ | ⟨_, h8, o, h9, h10⟩
      · rw [h1] at h; cases h
      · rw [h9]
        have : o = 0 := by rw [h10 (.inr rfl), Nat.zero_mul]
        subst this
        exact .inr ⟨L.blk, L.cap, arr, bs', rfl, rfl, h2, h3, h4, h5, h6, VCs.mono hle l (fun _ _ => rfl) h7⟩
  obtain ⟨bs2, hp2, hoY⟩ := k m' bX hle rfl (fun L hL => by simp only [m']; rw [if_neg hXY]; exact hL) hv'
  have hp3 : (bX ++ bs).Perm bs2 := ((hp.append_left bX).trans (by simpa using hp2.symm))
  obtain ⟨hn1, hb1⟩ := nodupL (zs := [((X, .row t sz l), bX), ((Y, .row t2 sz2 l2), bs)]) (R := R) (A := bs2) G (by simpa [Zs.own] using hp3)
  refine ⟨m', bs2, rfl, hle, Good.swap (zs := [((X, .row t sz l), bX), ((Y, .row t2 sz2 l2), bs)]) (zs' := [((X, .used), []), ((Y, .row t2 sz2 l2'), bs2)]) (R := R) G hle (Nat.le_refl _) (fun x hx _ => ?_) (fun b _ _ _ => rfl) ?_ (by simpa [Zs.own] using hn1) (fun b h => ?_) (fun b h => ⟨G.frz b h, .inl h⟩) ?_ ?_ (fun x hx => ⟨G.usedN x hx, .inl hx⟩) rfl rfl rfl (Nat.le_refl _)⟩
  · simp only [Zs.keys, List.map_cons, List.map_nil, List.mem_cons, List.not_mem_nil, or_false, not_or] at hx
    simp only [m']
    rw [if_neg hx.1]
  · intro z hz
    simp only [List.mem_cons, List.not_mem_nil, or_false] at hz
    rcases hz with rfl | rfl
    · exact ⟨rfl, hX.1⟩
    · exact hoY
  · obtain ⟨h1, h2, h3⟩ := hb1 b (by simpa [Zs.own] using h)
    refine ⟨h1, h2, ?_⟩
    rcases h3 with h3 | h3
    · exact .inl h3
    · exact .inr (.inl h3)
  · simp [Zs.keys]; exact fun e => hXY e.symm
  · intro x hx
    simp only [Zs.keys, List.map_cons, List.map_nil, List.mem_cons, List.not_mem_nil, or_false] at hx
    rcases hx with rfl | rfl
    · exact ⟨G.keyN _ (by simp [Zs.keys]), .inl (by simp [Zs.keys])⟩
    · exact ⟨G.keyN _ (by simp [Zs.keys]), .inl (by simp [Zs.keys])⟩
end
section
variable {nt : Nat} {st : St}
theorem St.thawIn {q Y : Nat} {t t2 : TypeId} {sz sz2 : Nat} {l l2 : List AV} {l2' : Nat → List AV} (hq : At st.S q (Y, .row t2 sz2 l2)) (hI : ∀ X, Hos (.lst true t sz l) (.sl X 0 l.length) l2 (l2' X)) : St.To nt st fun st' => ∃ X, st' = ⟨st.T, (X, .row t sz l) :: st.S.set q (Y, .row t2 sz2 (l2' X))⟩ := by
  rintro m0 a w ⟨m, N, Z, rfl, h2, h3, h4⟩
  obtain ⟨bs, hz⟩ := hq.z h2
  obtain ⟨R, hp1, hp2⟩ := perm_get hz
  obtain ⟨m', b1, b2, hw, hle, G'⟩ := (h3.perm hp1).thawIn (hI N)
  exact ⟨⟨st.T, (N, .row t sz l) :: st.S.set q (Y, .row t2 sz2 (l2' N))⟩, ⟨m', N + 1, ((N, .row t sz l), b1) :: Z.set q ((Y, .row t2 sz2 (l2' N)), b2), hw, by rw [List.map_cons, List.map_set, h2], G'.perm ((hp2 _).symm.cons _), h4.mono hle⟩, N, rfl⟩
theorem St.closeIn {p q X Y n : Nat} {t t2 : TypeId} {sz sz2 : Nat} {l l2 l2' : List AV} (hpq : p ≠ q) (hS : At st.S p (X, .row t sz l)) (hq : At st.S q (Y, .row t2 sz2 l2)) (hn : n = l.length) (hI : Hos (.sl X 0 n) (.lst true t sz l) l2 l2') : St.To nt st fun st' => st' = ⟨st.T, (st.S.set p (X, .used)).set q (Y, .row t2 sz2 l2')⟩ := by
  rintro m0 a w ⟨m, N, Z, rfl, h2, h3, h4⟩
  obtain ⟨bs, hz⟩ := hS.z h2
  obtain ⟨bs2, hz2⟩ := hq.z h2
  obtain ⟨R, hp1, hp2⟩ := perm_get2 hpq hz hz2
  obtain ⟨m', b2, hw, hle, G'⟩ := (h3.perm hp1).closeIn hn hI
  exact ⟨⟨st.T, (st.S.set p (X, .used)).set q (Y, .row t2 sz2 l2')⟩, ⟨m', N, (Z.set p ((X, .used), [])).set q ((Y, .row t2 sz2 l2'), b2), hw, by rw [List.map_set, List.map_set, h2], G'.perm (hp2 _ _).symm, h4.mono hle⟩, rfl⟩
end
end Go.Proofs.YtkoehhpfjpdkcaaGreat

namespace Go.Proofs.YtkoehhpfjpdkcaaGreat
set_option linter.unusedVariables false
variable {ro : Option Nat}
theorem Pos.f {S as bs : List Slot} {rs ws : List (Nat × Slot)} (h : Pos S as bs rs ws := by (repeat (first | exact .nil | (apply Pos.cons; exact At.f)))) : Pos S as bs rs ws := h
section
variable {P : Program} {nt : Nat} {ops : Array Oper} {Q : Exit → St → Prop} {l rest : List Oper} {acc : List Eff} {T : List (Nat × AV)} {S : List Slot} {rS wS : List (Nat × Slot)} {v : AV} {ty : TypeId} {pos : String} {after : Array Edge} {dst : Option Tmp} {ats : Array TypeId} {f : FuncId} {r : AV} {Sin Sout news : List Slot} {c : Option (List Bool)} {code : Code}
def nodupB : List Nat → Bool
  | [] => true
  | a :: l => !(l.any (Nat.beq a)) && nodupB l
theorem nodupB_spec : ∀ {l : List Nat}, nodupB l = true → l.Nodup
  | [], _ => .nil
  | a :: l, h => by
    simp only [nodupB, Bool.and_eq_true, Bool.not_eq_true', List.any_eq_false] at h
    exact List.nodup_cons.2 ⟨fun hm => h.1 a hm (by simp), nodupB_spec h.2⟩
theorem AWP.thawIn {q Y : Nat} {t t2 : TypeId} {sz sz2 : Nat} {ll l2 : List AV} {l2' : Nat → List AV} (hq : At S q (Y, .row t2 sz2 l2)) (hI : ∀ X, Hos (.lst true t sz ll) (.sl X 0 ll.length) l2 (l2' X)) (k : ∀ X, AWP ro P nt code Q ⟨T, (X, .row t sz ll) :: S.set q (Y, .row t2 sz2 (l2' X))⟩) : AWP ro P nt code Q ⟨T, S⟩ :=
  .ghost (St.thawIn (st := ⟨T, S⟩) hq hI) fun st' ⟨X, e⟩ => by subst e; exact k X
theorem AWP.closeIn {p q X Y n : Nat} {t t2 : TypeId} {sz sz2 : Nat} {ll l2 l2' : List AV} (hS : At S p (X, .row t sz ll)) (hq : At S q (Y, .row t2 sz2 l2)) (hpq : Nat.beq p q = false) (hn : n = ll.length) (hI : Hos (.sl X 0 n) (.lst true t sz ll) l2 l2') (k : AWP ro P nt code Q ⟨T, (S.set p (X, .used)).set q (Y, .row t2 sz2 l2')⟩) : AWP ro P nt code Q ⟨T, S⟩ :=
  .ghost (St.closeIn (st := ⟨T, S⟩) (fun e => by subst e; simp at hpq) hS hq hn hI) fun st' e => by subst e; exact k
theorem W.callZ1 {x0 : Operand} {v0 : AV} {g : Option (Nat × Bool)} (h0 : Rd c T x0 v0) (h : Spec P f ([v0]) Sin fun r' S' => r' = r ∧ S' = Sout) (hT : TR r v news) (hpos : Pos S (Sin ++ gones news) (Sout ++ news) rS wS) (hnd : nodupB (rS.map (·.1)) = true) (ht : noTup [(x0, v0)] = true) : Stp c P ⟨dst, .call ⟨.value (.func f), #[x0], ats⟩, ty, pos, after, g⟩ T S [(x0, v0)] rS v wS := ⟨OpT.callG (xs := [(x0, v0)]) h ht hT hpos.all.1 hpos.all.2.1 hpos.all.2.2.1 (nodupB_spec hnd), (.cons h0 .nil), hpos.all.2.2.2⟩
theorem AOps.z1 {x0 : Operand} {v0 : AV} (h : Spec P f ([v0]) Sin fun r' S' => r' = r ∧ S' = Sout) (hT : TR r v news) (k : AOps ro P nt ops Q rest ⟨putD T dst v, setAll S wS⟩) (h0 : Rd none T x0 v0 := by rfl) (hpos : Pos S (Sin ++ gones news) (Sout ++ news) rS wS := by exact Pos.f) (hnd : nodupB (rS.map (·.1)) = true := by rfl) (ht : noTup [(x0, v0)] = true := by rfl) (hd : dstOk dst nt = true := by rfl) : AOps ro P nt ops Q (⟨dst, .call ⟨.value (.func f), #[x0], ats⟩, ty, pos, after, none⟩ :: rest) ⟨T, S⟩ := AOps.s (W.callZ1 h0 h hT hpos hnd ht) hd k
theorem AOps.t1 {x0 : Operand} {v0 : AV} {t : TypeId} {sz : Nat} {ll : List AV} (h : PS P f ([v0]) (.lst true t sz ll)) (k : ∀ Y, AOps ro P nt ops Q rest ⟨putD T dst (.sl Y 0 ll.length), (Y, .row t sz ll) :: S⟩) (h0 : Rd none T x0 v0 := by rfl) (ht : noTup [(x0, v0)] = true := by rfl) (hd : dstOk dst nt = true := by rfl) : AOps ro P nt ops Q (⟨dst, .call ⟨.value (.func f), #[x0], ats⟩, ty, pos, after, none⟩ :: rest) ⟨T, S⟩ := AOps.rs fun Y => AOps.s (W.callZ1 h0 h (.ls (Y := Y)) (.cons .here .nil) rfl ht) hd (k Y)
theorem RGo.t1 {x0 : Operand} {v0 : AV} {g : Option (Nat × Bool)} {ts : List Nat} {t : TypeId} {sz q Y : Nat} {ll : List AV} (h : PS P f ([v0]) (.lst true t sz ll)) (k : RGo P nt ops l Q rest (acc ++ [⟨⟨dst, .call ⟨.value (.func f), #[x0], ats⟩, ty, pos, after, g⟩, ts ++ tmpsOf [(x0, v0)], [q], .sl Y 0 ll.length, [(q, (Y, .row t sz ll))]⟩]) ⟨putD T dst (.sl Y 0 ll.length), setAll S [(q, (Y, .row t sz ll))]⟩) (hSq : At S q (Y, .gone) := by exact At.f) (h0 : Rd none T x0 v0 := by rfl) (ht : noTup [(x0, v0)] = true := by rfl) (hd : dstOk dst nt = true := by rfl) (hg : Grd ops T g ts := by first | exact .none | exact .met rfl rfl (by first | rfl | assumption)) : RGo P nt ops l Q (⟨dst, .call ⟨.value (.func f), #[x0], ats⟩, ty, pos, after, g⟩ :: rest) acc ⟨T, S⟩ := RGo.sg (W.callZ1 h0 h (.ls (Y := Y)) (.cons hSq .nil) rfl ht) hd hg k
theorem W.callZ2 {x0 : Operand} {v0 : AV} {x1 : Operand} {v1 : AV} {g : Option (Nat × Bool)} (h0 : Rd c T x0 v0) (h1 : Rd c T x1 v1) (h : Spec P f ([v0, v1]) Sin fun r' S' => r' = r ∧ S' = Sout) (hT : TR r v news) (hpos : Pos S (Sin ++ gones news) (Sout ++ news) rS wS) (hnd : nodupB (rS.map (·.1)) = true) (ht : noTup [(x0, v0), (x1, v1)] = true) : Stp c P ⟨dst, .call ⟨.value (.func f), #[x0, x1], ats⟩, ty, pos, after, g⟩ T S [(x0, v0), (x1, v1)] rS v wS := ⟨OpT.callG (xs := [(x0, v0), (x1, v1)]) h ht hT hpos.all.1 hpos.all.2.1 hpos.all.2.2.1 (nodupB_spec hnd), (.cons h0 (.cons h1 .nil)), hpos.all.2.2.2⟩
theorem AOps.z2 {x0 : Operand} {v0 : AV} {x1 : Operand} {v1 : AV} (h : Spec P f ([v0, v1]) Sin fun r' S' => r' = r ∧ S' = Sout) (hT : TR r v news) (k : AOps ro P nt ops Q rest ⟨putD T dst v, setAll S wS⟩) (h0 : Rd none T x0 v0 := by rfl) (h1 : Rd none T x1 v1 := by rfl) (hpos : Pos S (Sin ++ gones news) (Sout ++ news) rS wS := by exact Pos.f) (hnd : nodupB (rS.map (·.1)) = true := by rfl) (ht : noTup [(x0, v0), (x1, v1)] = true := by rfl) (hd : dstOk dst nt = true := by rfl) : AOps ro P nt ops Q (⟨dst, .call ⟨.value (.func f), #[x0, x1], ats⟩, ty, pos, after, none⟩ :: rest) ⟨T, S⟩ := AOps.s (W.callZ2 h0 h1 h hT hpos hnd ht) hd k
theorem RGo.z2 {x0 : Operand} {v0 : AV} {x1 : Operand} {v1 : AV} {g : Option (Nat × Bool)} {ts : List Nat} (h : Spec P f ([v0, v1]) Sin fun r' S' => r' = r ∧ S' = Sout) (hT : TR r v news) (k : RGo P nt ops l Q rest (acc ++ [⟨⟨dst, .call ⟨.value (.func f), #[x0, x1], ats⟩, ty, pos, after, g⟩, ts ++ tmpsOf [(x0, v0), (x1, v1)], rS.map (·.1), v, wS⟩]) ⟨putD T dst v, setAll S wS⟩) (h0 : Rd none T x0 v0 := by rfl) (h1 : Rd none T x1 v1 := by rfl) (hpos : Pos S (Sin ++ gones news) (Sout ++ news) rS wS := by exact Pos.f) (hnd : nodupB (rS.map (·.1)) = true := by rfl) (ht : noTup [(x0, v0), (x1, v1)] = true := by rfl) (hd : dstOk dst nt = true := by rfl) (hg : Grd ops T g ts := by first | exact .none | exact .met rfl rfl (by first | rfl | assumption)) : RGo P nt ops l Q (⟨dst, .call ⟨.value (.func f), #[x0, x1], ats⟩, ty, pos, after, g⟩ :: rest) acc ⟨T, S⟩ := RGo.sg (W.callZ2 h0 h1 h hT hpos hnd ht) hd hg k
theorem AOps.e2 {x0 : Operand} {v0 : AV} {x1 : Operand} {v1 : AV} {β : Type} {C : β → Prop} {rr vv : β → AV} (h : Spec P f [v0, v1] [] fun r' S' => ∃ b, C b ∧ r' = rr b ∧ S' = []) [hf : ∀ b, Frz (rr b) (vv b)] (k : ∀ b, C b → AOps ro P nt ops Q rest ⟨putD T dst (vv b), S⟩) (h0 : Rd none T x0 v0 := by rfl) (h1 : Rd none T x1 v1 := by rfl) (ht : noTup [(x0, v0), (x1, v1)] = true := by rfl) (hd : dstOk dst nt = true := by rfl) : AOps ro P nt ops Q (⟨dst, .call ⟨.value (.func f), #[x0, x1], ats⟩, ty, pos, after, none⟩ :: rest) ⟨T, S⟩ := AOps.callE (xs := [(x0, v0), (x1, v1)]) (nw := fun _ => []) (wE := fun _ => []) h (fun b => .fz) (fun _ => rfl) (fun _ => .nil) .nil rfl .nil (.cons h0 (.cons h1 .nil)) ht hd k
theorem AOps.t2 {x0 : Operand} {v0 : AV} {x1 : Operand} {v1 : AV} {t : TypeId} {sz : Nat} {ll : List AV} (h : PS P f ([v0, v1]) (.lst true t sz ll)) (k : ∀ Y, AOps ro P nt ops Q rest ⟨putD T dst (.sl Y 0 ll.length), (Y, .row t sz ll) :: S⟩) (h0 : Rd none T x0 v0 := by rfl) (h1 : Rd none T x1 v1 := by rfl) (ht : noTup [(x0, v0), (x1, v1)] = true := by rfl) (hd : dstOk dst nt = true := by rfl) : AOps ro P nt ops Q (⟨dst, .call ⟨.value (.func f), #[x0, x1], ats⟩, ty, pos, after, none⟩ :: rest) ⟨T, S⟩ := AOps.rs fun Y => AOps.s (W.callZ2 h0 h1 h (.ls (Y := Y)) (.cons .here .nil) rfl ht) hd (k Y)
theorem AOps.eo3 {x0 : Operand} {v0 : AV} {x1 : Operand} {v1 : AV} {x2 : Operand} {v2 : AV} {β : Type} {C : β → Prop} {rr vv : β → AV} {X p : Nat} {ob : AO} {oo : β → AO} (h : Spec P f [v0, v1, v2] [(X, ob)] fun r' S' => ∃ b, C b ∧ r' = rr b ∧ S' = [(X, oo b)]) [hf : ∀ b, Frz (rr b) (vv b)] (k : ∀ b, C b → AOps ro P nt ops Q rest ⟨putD T dst (vv b), setAll S [(p, (X, oo b))]⟩) (hSp : At S p (X, ob) := by exact At.f) (h0 : Rd none T x0 v0 := by rfl) (h1 : Rd none T x1 v1 := by rfl) (h2 : Rd none T x2 v2 := by rfl) (ht : noTup [(x0, v0), (x1, v1), (x2, v2)] = true := by rfl) (hd : dstOk dst nt = true := by rfl) : AOps ro P nt ops Q (⟨dst, .call ⟨.value (.func f), #[x0, x1, x2], ats⟩, ty, pos, after, none⟩ :: rest) ⟨T, S⟩ := AOps.callE (xs := [(x0, v0), (x1, v1), (x2, v2)]) (rS := [(p, (X, ob))]) (nw := fun _ => []) (wE := fun b => [(p, (X, oo b))]) h (fun b => .fz) (fun _ => rfl) (fun _ => .cons hSp .nil) (by simp) rfl (.cons hSp .nil) (.cons h0 (.cons h1 (.cons h2 .nil))) ht hd k
end
end Go.Proofs.YtkoehhpfjpdkcaaGreat

namespace Go.Proofs.YtkoehhpfjpdkcaaGreat
set_option linter.unusedVariables false
variable {ro : Option Nat}
section
variable {P : Program} {nt : Nat} {c : Code} {ops : Array Oper} {rest : List Oper} {Q : Exit → St → Prop} {T : List (Nat × AV)} {S : List Slot} {p n X sz : Nat} {t : TypeId} {l : List AV}
end
end Go.Proofs.YtkoehhpfjpdkcaaGreat

namespace Go.Proofs.YtkoehhpfjpdkcaaGreat
set_option linter.unusedVariables false
set_option linter.unusedSimpArgs false
variable {ro : Option Nat}
open Go.RowKit
section
variable {P : Program} {m0 m : Mem} {N : Nat} {R : Zs} {ex : List Nat} {X sz : Nat} {l : List AV} {t t' te ty : TypeId} {x y : Operand} {pos : String} {after : Array Edge} {g : Option (Nat × Bool)} {dst : Option Tmp} {p : Nat}
theorem OpT.slice_lo {k : IntKind} {off n lo : Nat} {qi : Int} (he : tElem P t = some te) (hsz : tSz P te = some sz) (hq : qi = (lo : Int)) (hh : lo ≤ n) : OpT P ⟨dst, .slice t x (some y) none none, ty, pos, after, g⟩ [(x, .sl X off n), (y, .prim (.int k qi))] [(p, (X, .row t' sz l))] (.sl X (off + lo) (n - lo)) [] :=
  .pure_ fun m a hx hS => by
    obtain ⟨bs, hU, L, h1, h2, _⟩ := hS (p, (X, .row t' sz l)) (by simp)
    obtain ⟨_, hU', A, c, e1, h3⟩ := hx (x, .sl X off n) (by simp)
    have hy := (hx (y, .prim (.int k qi)) (by simp)).prim
    injection e1 with e1
    simp only at e1 hy
    subst hq
    have hcap : n ≤ c := by
      rcases h3 L h1 with ⟨_, e, _, e'⟩ | ⟨_, h4, o, e, _⟩
      · omega
      · injection e with _ _ e; omega
    have hr := run_slice (P := P) (w := m.w) he hsz (A := A) (len := n) (cap := c) (lo := lo) (hi := n) (vl := some (.int k lo)) (vh := none) (fun u hu => ⟨k, by injection hu with hu; exact hu.symm⟩) (by simp) (by simp) (by simp) hh hcap
    refine ⟨_, by simp only [execOp, Option.map_none, Option.map_some, e1, hy, Sem.run_bind, hr, Result.andThen_ok]; rfl, rfl, hU', _, _, rfl, fun L' hL' => ?_⟩
    rw [h1] at hL'; injection hL' with hL'; subst hL'
    rcases h3 L h1 with ⟨h5, e, e2, e3⟩ | ⟨h5, h4, o, e, h6⟩
    · injection e with e4 e5 e6
      subst e4 e6
      have : lo = 0 := by omega
      subst this
      exact .inl ⟨h5, by simp [e3], by omega, by omega⟩
    · injection e with e4 e5 e6
      subst e4 e6
      simp only [Option.map_some]
      by_cases hc : lo < L.cap - off
      · refine .inr ⟨h5, by omega, o + lo * sz, ?_, fun _ => ?_⟩
        · rw [if_neg (by omega), pt_add]
          congr 1
          omega
        · rw [h6 (.inl (by omega)), h2, Nat.add_mul]
      · have hlo : lo = L.cap - off := by omega
        refine .inr ⟨h5, by omega, o, by rw [if_pos hlo.symm]; congr 1; omega, fun h => ?_⟩
        rcases h with h | h
        · omega
        · have h0 : off = 0 := by omega
          rw [h6 (.inr h0), h0, show lo = 0 by omega]
/-- The elements of a row from a place on are written, by values that own nothing. -/
theorem Good.splice {bs : List Nat} (G : Good m0 m N (((X, .row t sz l), bs) :: R) ex) {L : Loc} {arr : Array Value} {bs0 : List Nat} (hL : m.μ X = some L) (hnil : L.isNil = false) (hbs : bs = L.blk :: bs0) (hb : m.w.heap[L.blk]? = some (.cells arr t (0, 0))) (harr : arr.size = L.cap * sz) (hl : l.length ≤ L.cap) (hcap : L.cap ≤ maxLen) (hsz : L.sz = sz) (hw : ∀ e ∈ l, e.width = sz)
    (hv : VCs m l (arr.toList.take (l.length * sz)) bs0) {off : Nat} {ns : List AV} {cs : List Value} (hoff : off + ns.length ≤ l.length) (hnw : ∀ e ∈ ns, e.width = sz) (hn : VCs m ns cs []) :
    ∃ b1, Good m0 { m with w := m.w.setRow L.blk (arr.toList.take (off * sz) ++ cs ++ arr.toList.drop (off * sz + cs.length)).toArray } N (((X, .row t sz (l.take off ++ ns ++ l.drop (off + ns.length))), L.blk :: b1) :: R) ex ∧ m.Le { m with w := m.w.setRow L.blk (arr.toList.take (off * sz) ++ cs ++ arr.toList.drop (off * sz + cs.length)).toArray } := by
  have hcs : cs.length = ns.length * sz := by rw [VCs.len _ hn, widths_of hnw]
  obtain ⟨p1, p2, e1, h1, h2⟩ := VCs.take hw hv (k := off) (by omega)
  obtain ⟨p3, p4, e2, h3, h4⟩ := VCs.take (l := l.drop off) (fun e he => hw e (List.mem_of_mem_drop he)) h2 (k := ns.length) (by rw [List.length_drop]; omega)
  rw [List.drop_drop] at h4
  have hlen : (l.take off ++ ns ++ l.drop (off + ns.length)).length = l.length := by simp only [List.length_append, List.length_take, List.length_drop]; omega
  have hsz0 : l.length * sz ≤ arr.toList.length := by rw [show arr.toList.length = arr.size from Array.length_toList, harr]; exact Nat.mul_le_mul_right _ hl
  have hle1 : off * sz + ns.length * sz ≤ l.length * sz := by rw [← Nat.add_mul]; exact Nat.mul_le_mul_right _ hoff
  have nd : (p1 ++ p4).Nodup := by
    have hown := G.own
    rw [own_cons, hbs, e1, e2] at hown
    have h5 : (L.blk :: (p1 ++ (p3 ++ p4))).Nodup := by
      rw [List.append_assoc] at hown
      exact (List.nodup_append.1 hown).1
    have h6 := (List.nodup_cons.1 h5).2
    obtain ⟨h7, h8, h9⟩ := List.nodup_append.1 h6
    obtain ⟨_, h10, _⟩ := List.nodup_append.1 h8
    exact List.nodup_append.2 ⟨h7, h10, fun a ha b hb => h9 a ha b (by simp [hb])⟩
  refine ⟨p1 ++ p4, Good.write G hL hnil hbs hb (l' := l.take off ++ ns ++ l.drop (off + ns.length)) (bs1 := p1 ++ p4) ?_ (by rw [hlen]; exact hl) hcap hsz ?_ ?_ ?_ nd _ rfl⟩
  · simp only [List.size_toArray, List.length_append, List.length_take, List.length_drop, Array.length_toList, harr] at hsz0 ⊢
    omega
  · intro e he
    rcases List.mem_append.1 he with he | he
    · rcases List.mem_append.1 he with he | he
      · exact hw e (List.mem_of_mem_take he)
      · exact hnw e he
    · exact hw e (List.mem_of_mem_drop he)
  · rw [hlen]
    have e3 : (arr.toList.take (off * sz) ++ cs ++ arr.toList.drop (off * sz + cs.length)).take (l.length * sz) = (arr.toList.take (l.length * sz)).take (off * sz) ++ cs ++ ((arr.toList.take (l.length * sz)).drop (off * sz)).drop (ns.length * sz) := by
      rw [List.take_append, List.take_of_length_le (by simp only [List.length_append, List.length_take]; omega)]
      congr 1
      · rw [List.take_take, Nat.min_eq_left (by omega)]
      · rw [List.drop_drop, hcs, List.drop_take]
        congr 1
        simp only [List.length_append, List.length_take]
        omega
    rw [e3]
    have := (h1.append hn).append h4
    simpa using this
  · intro b hb
    rw [e1, e2]
    rcases List.mem_append.1 hb with h | h <;> simp [h]
/-- clear of a part of a row. -/
theorem OpT.clear {off n : Nat} {zl : List Value} {ag : Bool} (he : tElem P t = some te) (hz : tZ P te = some zl) (hsz : tSz P te = some sz) (hag : ag = true ∨ zl.length = 1) (hzs : zl.length = sz) (hn : off + n ≤ l.length) :
    OpT P ⟨dst, .call ⟨.builtin .clear, #[x], #[t]⟩, ty, pos, after, g⟩ [(x, .sl X off n)] [(p, (X, .row te sz l))] (.tup []) [(p, (X, .row te sz (l.take off ++ List.replicate n (zAV zl ag) ++ l.drop (off + n))))] := by
  intro nt m0 T S a w hx hS hd hr
  obtain ⟨i, zv, hi, hzv, hzl, ho⟩ := tZ_spec hz
  obtain ⟨m, N, Z, rfl, h2, h3, h4⟩ := hr
  have h2' : Z.map (·.1) = S := h2
  have hxa : VV m (.sl X off n) (a.eval x) [] := h4.ev (hx (x, .sl X off n) (by simp))
  have hSp := hS (p, (X, .row te sz l)) (by simp)
  rw [← h2', List.getElem?_map] at hSp
  cases hz' : Z[p]? with
  | none => rw [hz'] at hSp; cases hSp
  | some z =>
    rw [hz'] at hSp
    simp only [Option.map_some, Option.some.injEq] at hSp
    obtain ⟨z1, bs⟩ := z
    simp only at hSp
    subst hSp
    obtain ⟨R, hp1, hp2⟩ := perm_get hz'
    have G := h3.perm hp1
    have hO := G.obj _ (List.mem_cons_self ..)
    obtain ⟨hU, L, hL, hLs, hO⟩ := hO
    obtain ⟨_, hU', A, q, e1, hs⟩ := hxa
    injection e1 with e1
    have hexec : ∀ w, (execOp a.eval ⟨dst, .call ⟨.builtin .clear, #[x], #[t]⟩, ty, pos, after, g⟩).run P w = ((Builtin.clear_ #[t] ty #[a.eval x] : Sem Value) >>= fun v => pure (.value v)).run P w := fun w => by rw [run_builtin]; simp [builtin, Sem.run_bind]
    have htup : VV m (.tup []) (.tuple #[]) [] := ⟨#[], rfl, rfl, rfl⟩
    by_cases hn0 : n = 0
    · subst hn0
      have hnoop : (Builtin.clear_ #[t] ty #[a.eval x]).run P m.w = .ok (.tuple #[]) m.w := by
        rw [e1]
        cases A <;> simp [Builtin.clear_, run_underlying (tElem_spec he)]
      unfold Oper.wp
      rw [hexec, Sem.run_bind, hnoop]
      simp only [List.replicate_zero, List.append_nil, Nat.add_zero, List.take_append_drop]
      refine ⟨m, N, Z, rfl, ?_, h3, h4.put hd htup⟩
      have : S.set p (X, .row te sz l) = S := by
        have := hS (p, (X, .row te sz l)) (by simp)
        obtain ⟨h5, h6⟩ := List.getElem?_eq_some_iff.1 this
        have h7 := List.set_getElem_self h5
        rw [h6] at h7; exact h7
      show Z.map (·.1) = setAll S [(p, (X, .row te sz l))]
      rw [setAll, setAll, this, h2']
    · rcases hO with ⟨_, rfl, _⟩ | ⟨hnil, arr, bs0, rfl, hb, harr, hlc, hcap, hw, hv⟩
      · simp at hn; omega
      · rcases hs L hL with ⟨h5, _⟩ | ⟨_, h5, o, h6, h7⟩
        · rw [hnil] at h5; cases h5
        · have ho' := h7 (.inl (by omega))
          have hzw : (zAV zl ag).width = sz := by rw [← VC.len _ (zAV_vc m ho hag), hzs]
          obtain ⟨b1, G', hle⟩ := G.splice hL hnil rfl hb harr hlc hcap hLs hw hv (off := off) (ns := List.replicate n (zAV zl ag)) (cs := (List.replicate n zl).flatten) (by simpa using hn) (fun e he => by rw [List.eq_of_mem_replicate he, hzw]) (vcs_replicate m (zAV_vc m ho hag) n)
          have hcl : (Builtin.zeroCells zv.cells n).toList = (List.replicate n zl).flatten := by
            rw [Builtin.zeroCells, made_flat, hzl]
          have hfl : ((List.replicate n zl).flatten).length = n * sz := by simp [hzs]
          have hst := run_storeCells_at P L.blk o te (List.replicate n zl).flatten 0 arr m.w hb (by
            rw [hfl, harr, ho', hLs, Nat.add_zero, ← Nat.add_mul]
            exact Nat.mul_le_mul_right _ (by omega)) (fun u hu => by
            obtain ⟨l', hl', hu'⟩ := List.mem_flatten.1 hu
            rw [List.eq_of_mem_replicate hl'] at hu'
            exact ho u hu')
          simp only [Nat.add_zero] at hst
          have hzero : ∀ w, (zeroValue te).run P w = .ok zv w := fun w => by simp [zeroValue, typeInfo, Sem.run, program, hi, hzv]
          have hrun : (Builtin.clear_ #[t] ty #[a.eval x]).run P m.w = .ok (.tuple #[]) (m.w.setRow L.blk (arr.toList.take o ++ (List.replicate n zl).flatten ++ arr.toList.drop (o + (List.replicate n zl).flatten.length)).toArray) := by
            rw [e1, h6]
            obtain ⟨n', rfl⟩ : ∃ n', n = n' + 1 := ⟨n - 1, by omega⟩
            simp [Builtin.clear_, run_underlying (tElem_spec he), hzero, hcl, hst]
          unfold Oper.wp
          rw [hexec, Sem.run_bind, hrun, ho', hLs]
          rw [List.length_replicate] at G'
          refine ⟨_, N, Z.set p ((X, .row te sz (l.take off ++ List.replicate n (zAV zl ag) ++ l.drop (off + n))), L.blk :: b1), rfl, ?_, G'.perm (hp2 _).symm, (h4.mono hle).put hd (VV.mono hle (by simp) htup)⟩
          rw [List.map_set, h2']; rfl
theorem le_drew (m : Mem) : m.Le { m with w := m.w.drew } := ⟨fun _ h => h, fun _ _ _ h => h, fun _ h => ⟨h, rfl⟩⟩
theorem Good.drew {Z : Zs} (G : Good m0 m N Z ex) : Good m0 { m with w := m.w.drew } N Z ex :=
  ⟨fun z hz => ORel.mono (le_drew m) (fun hg hu => by have := G.obj z hz; rw [hg] at this; exact this.2 hu) (fun L h => h) (fun _ _ => rfl) (G.obj z hz), G.own, G.blk, G.frz, G.keys, G.keyN, G.usedN, G.le.trans (le_drew m), G.os, G.tape, G.output, G.size⟩
/-- An operation that draws, and makes a new row. -/
theorem OpT.newD {o : Oper} {v : AV} {xs : List (Operand × AV)} (h : ∀ (m : Mem) (a : Act), (∀ q ∈ xs, VV m q.2 (a.eval q.1) []) → ∃ arr cap u, (execOp a.eval o).run P m.w = .ok (.value u) (m.w.drew.alloc (.cells arr t)) ∧ arr.size = cap * sz ∧ l.length ≤ cap ∧ cap ≤ maxLen ∧ (∀ e ∈ l, e.width = sz) ∧ VCs m l (arr.toList.take (l.length * sz)) [] ∧
      ∃ len, v = .sl X 0 len ∧ len ≤ cap ∧ u = .slice (some ⟨m.w.heap.size, 0, none⟩) len cap) : OpT P o xs [(p, (X, .gone))] v [(p, (X, .row t sz l))] := by
  intro nt m0 T S a w hx hS hd hr
  obtain ⟨m, N, Z, rfl, h2, h3, h4⟩ := hr
  have h2' : Z.map (·.1) = S := h2
  obtain ⟨arr, cap, u, h5, h6, h7, h8, h9, h10, len, rfl, hlen, rfl⟩ := h m a (fun q hq => h4.ev (hx q hq))
  have hSp := hS (p, (X, .gone)) (by simp)
  rw [← h2', List.getElem?_map] at hSp
  cases hz : Z[p]? with
  | none => rw [hz] at hSp; cases hSp
  | some z =>
    rw [hz] at hSp
    simp only [Option.map_some, Option.some.injEq] at hSp
    obtain ⟨z1, z2⟩ := z
    simp only at hSp
    subst hSp
    obtain ⟨R, hp1, hp2⟩ := perm_get hz
    obtain ⟨G', hle⟩ := Good.fresh (t := t) (h3.perm hp1).drew (VCs.mono (le_drew m) l (fun _ _ => rfl) h10) h6 h7 h8 h9 _ rfl
    unfold Oper.wp
    rw [h5]
    refine ⟨_, N, Z.set p ((X, .row t sz l), [m.w.heap.size]), rfl, ?_, G'.perm (hp2 _).symm, ((h4.mono (le_drew m)).mono hle).put hd ?_⟩
    · rw [List.map_set, h2']; rfl
    · refine ⟨rfl, .inr rfl, _, _, rfl, fun L hL => ?_⟩
      simp only [if_true, Option.some.injEq] at hL
      subst hL
      exact .inr ⟨rfl, by simpa using hlen, 0, by simp, fun _ => by simp⟩
/-- append of n zeros, where there is no room. -/
theorem run_appz_grow {tx : TypeId} {kk : IntKind} {i : TypeInfo} {z : Value} (w : World) (ht : P.underlying t = some (.slice te)) (hk : P.underlying tx = some (.int kk)) (hi : P.info? te = some i) (hz : i.zero = some z) (hzs : z.cells.size = i.size) (base : Option Addr) (sLen sCap : Nat) (olds : List Value)
    (hold : (Builtin.firstCells i.size sLen (.slice base sLen sCap)).run P w.drew = .ok olds.toArray w.drew) (k2 : IntKind) (n : Nat) (hn63 : (n : Int) ≤ 9223372036854775807) (hb : n * i.bytes ≤ 281474976710656) (hn : n * i.size ≠ 0)
    (hg : sCap < sLen + n) (h63 : ((sLen + n : Nat) : Int) ≤ 9223372036854775807) (hfit : Builtin.nextslicecap (sLen + n) sCap * i.bytes ≤ 281474976710656) :
    (Builtin.append_ #[t, tx] ty #[.slice base sLen sCap, .int k2 (n : Int)]).run P w =
      .ok (.slice (some ⟨w.heap.size, 0, none⟩) (sLen + n) (grownCap w (sLen + n) sCap te))
        (w.drew.alloc (.cells ((olds.toArray ++ Builtin.zeroCells z.cells n) ++ Builtin.zeroCells z.cells (grownCap w (sLen + n) sCap te - (sLen + n))) te)) := by
  have hng : ¬ (sLen + n ≤ sCap) := by omega
  have h63' : ¬ (9223372036854775807 < ((sLen : Int) + (n : Int))) := by omega
  have h48' : ¬ (281474976710656 < Builtin.nextslicecap (sLen + n) sCap * i.bytes) := by omega
  have hw : IntKind.i64.wrap (n : Int) = n := wrap_id (by omega) hn63
  have h0 : ¬ ((n : Int) < 0) := by omega
  have hbi : ¬ (281474976710656 < (n : Int) * (i.bytes : Int)) := by
    have : ((n * i.bytes : Nat) : Int) ≤ 281474976710656 := by omega
    rw [Int.natCast_mul] at this
    omega
  have hn' : ¬ (n = 0 ∨ i.size = 0) := by simpa [Nat.mul_eq_zero] using hn
  simp [Builtin.append_, run_underlying ht, run_underlying hk, sizeOf, typeInfo, zeroValue, hi, hz, asInt, asIntOf, hw, h0, hbi, hng, h63', h48', Question.forced, hold, newRow, grownCap, hn']
  exact fun h => absurd h hn
def tInt (P : Program) (t : TypeId) : Bool := match P.underlying t with
  | some (.int _) => true
  | _ => false
theorem tInt_spec {t : TypeId} (h : tInt P t = true) : ∃ k, P.underlying t = some (.int k) := by
  unfold tInt at h
  split at h
  · rename_i k hk; exact ⟨k, hk⟩
  · cases h
/-- n zeros appended to nil. -/
theorem OpT.appz_nil {tx : TypeId} {k : IntKind} {qi : Int} {n by_ : Nat} {zl : List Value} {ag : Bool} (T : tRow P t = some (te, sz, by_)) (hz : tZ P te = some zl) (hag : ag = true ∨ zl.length = 1) (hzs : zl.length = sz) (htx : tInt P tx = true) (hq : qi = (n : Int)) (h0 : 0 < n) (hb : n * by_ ≤ 140737488355328) (hby : 0 < by_) :
    OpT P ⟨dst, .call ⟨.builtin .append, #[x, y], #[t, tx]⟩, ty, pos, after, g⟩ [(x, .prim (.slice none 0 0)), (y, .prim (.int k qi))] [(p, (X, .gone))] (.sl X 0 n) [(p, (X, .row te sz (List.replicate n (zAV zl ag))))] := by
  subst hq
  obtain ⟨i, z, ht, hi, hiz, h3, h4, hzs', hsz⟩ := tRow_spec T
  obtain ⟨i', zv, hi', hzv, hzl, ho⟩ := tZ_spec hz
  rw [hi] at hi'
  injection hi' with hi'
  subst hi'
  rw [hiz] at hzv
  injection hzv with hzv
  subst hzv
  obtain ⟨kk, hk⟩ := tInt_spec htx
  have hnm : n ≤ 140737488355328 := Nat.le_trans (Nat.le_mul_of_pos_right n hby) hb
  refine OpT.newD fun m a hx => ?_
  have hx0 := (hx (x, .prim (.slice none 0 0)) (by simp)).prim
  have hy0 := (hx (y, .prim (.int k (n : Int))) (by simp)).prim
  simp only at hx0 hy0
  have hrun := run_appz_grow (P := P) (ty := ty) m.w ht hk hi hiz (by rw [hzs', h3]) none 0 0 [] (by exact run_firstCells_none m.w.drew _ 0 0 0) k n (by omega) (by rw [h4]; omega) (by rw [h3]; exact Nat.ne_of_gt (Nat.mul_pos h0 hsz)) (by omega) (by omega) (by rw [h4, Nat.zero_add, nextslicecap_zero h0]; omega)
  simp only [Nat.zero_add] at hrun
  have hge := grownCap_ge m.w n 0 te
  have hcm := grownCap_le_maxLen m.w n 0 te (by unfold maxLen; omega)
  have hzc : ∀ j, (Builtin.zeroCells z.cells j).toList = (List.replicate j zl).flatten := fun j => by rw [Builtin.zeroCells, made_flat, hzl]
  refine ⟨(([] : List Value).toArray ++ Builtin.zeroCells z.cells n) ++ Builtin.zeroCells z.cells (grownCap m.w n 0 te - n), grownCap m.w n 0 te, _, ?_, ?_, by simpa using hge, hcm, fun e he => by rw [List.eq_of_mem_replicate he, ← VC.len _ (zAV_vc m ho hag), hzs], ?_, n, rfl, hge, rfl⟩
  · rw [run_builtin]
    simp only [builtin, List.map_toArray, List.map_cons, List.map_nil, hx0, hy0, Sem.run_bind, hrun, Result.andThen_ok, Sem.run_pure]
  · simp only [Array.size_append, size_zeroCells, hzs', List.size_toArray, List.length_nil, Nat.zero_add]
    rw [← Nat.add_mul]
    congr 1
    omega
  · simp only [Array.toList_append, hzc, List.nil_append, List.length_replicate]
    rw [List.take_left' (by simp [hzs])]
    exact vcs_replicate m (zAV_vc m ho hag) n
theorem OpT.cap_nil (he : tElem P t = some te) : OpT P ⟨dst, .call ⟨.builtin .cap, #[x], #[t]⟩, ty, pos, after, g⟩ [(x, .prim (.slice none 0 0))] [] (.prim (.int .i64 0)) [] :=
  .pure_ fun m a hx _ => by
    have hx0 := (hx (x, .prim (.slice none 0 0)) (by simp)).prim
    simp only at hx0
    refine ⟨_, ?_, vv_prim _⟩
    rw [run_builtin]
    simp [builtin, Builtin.cap_, hx0, run_underlying (tElem_spec he), Sem.run_bind, Sem.run_pure, Result.andThen_ok, goInt]
theorem OpT.slice_nil_hi {k : IntKind} (he : tElem P t = some te) (hsz : tSz P te = some sz) : OpT P ⟨dst, .slice t x none (some y) none, ty, pos, after, g⟩ [(x, .prim (.slice none 0 0)), (y, .prim (.int k 0))] [] (.prim (.slice none 0 0)) [] :=
  .pure_ fun m a hx _ => by
    have hx0 := (hx (x, .prim (.slice none 0 0)) (by simp)).prim
    have hy0 := (hx (y, .prim (.int k 0)) (by simp)).prim
    simp only at hx0 hy0
    have hr := run_slice (P := P) (w := m.w) he hsz (A := none) (len := 0) (cap := 0) (lo := 0) (hi := 0) (vl := none) (vh := some (.int k 0)) (by simp) (by simp) (fun u hu => ⟨k, by injection hu with hu; exact hu.symm⟩) (by simp) (by omega) (by omega)
    exact ⟨_, by simp only [execOp, Option.map_none, Option.map_some, hx0, hy0, Sem.run_bind, hr, Result.andThen_ok]; rfl, vv_prim _⟩
theorem Good.less {o o' : AO} {bs bs' : List Nat} (G : Good m0 m N (((X, o), bs) :: R) ex) (h : ORel m X o' bs') (hs : bs'.Sublist bs) : Good m0 m N (((X, o'), bs') :: R) ex := by
  have hso : (Zs.own (((X, o'), bs') :: R) ++ ex).Sublist (Zs.own (((X, o), bs) :: R) ++ ex) := by
    simp only [own_cons]
    exact (hs.append (.refl _)).append (.refl _)
  refine ⟨fun z hz => ?_, G.own.sublist hso, fun b hb => G.blk b (hso.subset hb), G.frz, G.keys, G.keyN, G.usedN, G.le, G.os, G.tape, G.output, G.size⟩
  rcases List.mem_cons.1 hz with rfl | hz
  · exact h
  · exact G.obj z (List.mem_cons_of_mem _ hz)
/-- A row is cut short. -/
theorem St.shrink {nt : Nat} {st : St} (n : Nat) (hS : At st.S p (X, .row t sz l)) : St.To nt st fun st' => st' = ⟨st.T, st.S.set p (X, .row t sz (l.take n))⟩ := by
  rintro m0 a w ⟨m, N, Z, rfl, h2, h3, h4⟩
  obtain ⟨bs, hz⟩ := hS.z h2
  obtain ⟨R, hp1, hp2⟩ := perm_get hz
  have G := h3.perm hp1
  have hO : ORel m X (.row t sz l) bs := G.obj _ (List.mem_cons_self ..)
  obtain ⟨hU, L, hL, hLs, hO⟩ := hO
  obtain ⟨bs', hs, ho⟩ : ∃ bs', bs'.Sublist bs ∧ ORel m X (.row t sz (l.take n)) bs' := by
    rcases hO with ⟨h1, rfl, rfl⟩ | ⟨h1, arr, b0, rfl, e1, e2, e3, e4, e5, e6⟩
    · exact ⟨[], .refl _, hU, L, hL, hLs, .inl ⟨h1, by simp, rfl⟩⟩
    · obtain ⟨p1, p2, e7, k1, k2⟩ := VCs.take e5 e6 (k := min n l.length) (Nat.min_le_right _ _)
      have e8 : l.take (min n l.length) = l.take n := by rw [List.take_eq_take_iff]; omega
      rw [e8] at k1
      refine ⟨L.blk :: p1, by rw [e7]; exact .cons_cons _ (List.sublist_append_left _ _), hU, L, hL, hLs, .inr ⟨h1, arr, p1, rfl, e1, e2, Nat.le_trans (by rw [List.length_take]; exact Nat.min_le_right _ _) e3, e4, fun e he => e5 e (List.mem_of_mem_take he), ?_⟩⟩
      rw [List.take_take, Nat.min_eq_left (Nat.mul_le_mul_right _ (Nat.min_le_right _ _))] at k1
      rw [List.length_take]
      exact k1
  exact ⟨⟨st.T, st.S.set p (X, .row t sz (l.take n))⟩, ⟨m, N, Z.set p ((X, .row t sz (l.take n)), bs'), rfl, by rw [List.map_set, h2], (G.less ho hs).perm (hp2 _).symm, h4⟩, rfl⟩
end
section
variable {P : Program} {nt : Nat} {c : Code} {ops : Array Oper} {rest : List Oper} {Q : Exit → St → Prop} {T : List (Nat × AV)} {S : List Slot} {p n X sz off by_ : Nat} {t te tx ty : TypeId} {l : List AV} {x y : Operand} {dst : Option Tmp} {pos : String} {after : Array Edge} {k : IntKind} {q : Int} {t' : TypeId}
theorem AWP.shrink (n : Nat) (kk : AWP ro P nt c Q ⟨T, S.set p (X, .row t sz (l.take n))⟩) (hS : At S p (X, .row t sz l) := by exact At.f) : AWP ro P nt c Q ⟨T, S⟩ := .ghost (St.shrink (st := ⟨T, S⟩) n hS) fun st' e => by subst e; exact kk
theorem W.slice_lo {c : Option (List Bool)} {g : Option (Nat × Bool)} {lo : Nat} {qi : Int} [TEl P t te] [TSize P te sz] (hx : Rd c T x (.sl X off n)) (hy : Rd c T y (.prim (.int k qi))) (hSp : At S p (X, .row t' sz l)) (hq : qi = (lo : Int)) (hh : lo ≤ n) : Stp c P ⟨dst, .slice t x (some y) none none, ty, pos, after, g⟩ T S [(x, .sl X off n), (y, .prim (.int k qi))] [(p, (X, .row t' sz l))] (.sl X (off + lo) (n - lo)) [] := ⟨.slice_lo TEl.h TSize.h hq hh, .cons hx (.cons hy .nil), .cons hSp .nil⟩
theorem W.clear {c : Option (List Bool)} {g : Option (Nat × Bool)} {zl : List Value} {ag : Bool} [TEl P t te] [TZe P te zl] [TSize P te sz] [TAg P te ag] (hx : Rd c T x (.sl X off n)) (hSp : At S p (X, .row te sz l)) (hag : ag = true ∨ zl.length = 1) (hzs : zl.length = sz) (hn : off + n ≤ l.length) : Stp c P ⟨dst, .call ⟨.builtin .clear, #[x], #[t]⟩, ty, pos, after, g⟩ T S [(x, .sl X off n)] [(p, (X, .row te sz l))] (.tup []) [(p, (X, .row te sz (l.take off ++ List.replicate n (zAV zl ag) ++ l.drop (off + n))))] := ⟨.clear TEl.h TZe.h TSize.h hag hzs hn, .cons hx .nil, .cons hSp .nil⟩
theorem W.capN {c : Option (List Bool)} {g : Option (Nat × Bool)} [TEl P t te] (hx : Rd c T x (.prim (.slice none 0 0))) : Stp c P ⟨dst, .call ⟨.builtin .cap, #[x], #[t]⟩, ty, pos, after, g⟩ T S [(x, .prim (.slice none 0 0))] [] (.prim (.int .i64 0)) [] := ⟨.cap_nil TEl.h, .cons hx .nil, .nil⟩
theorem W.sliceN {c : Option (List Bool)} {g : Option (Nat × Bool)} [TEl P t te] [TSize P te sz] (hx : Rd c T x (.prim (.slice none 0 0))) (hy : Rd c T y (.prim (.int k 0))) : Stp c P ⟨dst, .slice t x none (some y) none, ty, pos, after, g⟩ T S [(x, .prim (.slice none 0 0)), (y, .prim (.int k 0))] [] (.prim (.slice none 0 0)) [] := ⟨.slice_nil_hi TEl.h TSize.h, .cons hx (.cons hy .nil), .nil⟩
theorem AOps.appzN {n : Nat} {zl : List Value} {ag : Bool} [TRo P t te sz by_] [TZe P te zl] [TAg P te ag] (kk : ∀ X, AOps ro P nt ops Q rest ⟨putD T dst (.sl X 0 n), (X, .row te sz (List.replicate n (zAV zl ag))) :: S⟩) (h0 : 0 < n) (hb : n * by_ ≤ 140737488355328) (hx : Rd none T x (.prim (.slice none 0 0)) := by rfl) (hy : Rd none T y (.prim (.int k q)) := by rfl) (hq : q = (n : Int) := by first | with_reducible rfl | omega) (htx : tInt P tx = true := by kernel_rfl) (hag : ag = true ∨ zl.length = 1 := by first | exact .inl rfl | exact .inr rfl) (hzs : zl.length = sz := by rfl) (hby : 0 < by_ := by decide) (hd : dstOk dst nt = true := by rfl) : AOps ro P nt ops Q (⟨dst, .call ⟨.builtin .append, #[x, y], #[t, tx]⟩, ty, pos, after, none⟩ :: rest) ⟨T, S⟩ :=
  AOps.rs fun X => AOps.s (wS := [(0, (X, .row te sz (List.replicate n (zAV zl ag))))]) ⟨.appz_nil TRo.h TZe.h hag hzs htx hq h0 hb hby, .cons hx (.cons hy .nil), .cons .here .nil⟩ hd (kk X)
theorem AOps.g_app2 {a b : Operand} {t1 t2 : TypeId} {st : St} {g : Option (Nat × Bool)} (kk : AOps ro P nt ops Q (⟨dst, .call ⟨.builtin .append, #[a, b], #[t1, t2]⟩, ty, pos, after, g⟩ :: rest) st) : AOps ro P nt ops Q (⟨dst, .call ⟨.builtin .append, #[a, b], #[t1, t2]⟩, ty, pos, after, g⟩ :: rest) st := kk
end
end Go.Proofs.YtkoehhpfjpdkcaaGreat

namespace Go.Proofs.YtkoehhpfjpdkcaaGreat
set_option linter.unusedVariables false
variable {ro : Option Nat}
/-- A slice of the whole row reads as the list l'. -/
inductive IceX (X n : Nat) (t : TypeId) (sz : Nat) (l' : List AV) : AV → AV → Prop
  | sl : IceX X n t sz l' (.sl X 0 n) (.lst false t sz l')
mutual
theorem Ic.imp {B B' : AV → AV → Prop} (h : ∀ a b, B a b → B' a b) : {a b : AV} → Ic B a b → Ic B' a b
  | _, _, .same => .same
  | _, _, .base k => .base (h _ _ k)
  | _, _, .agg k => .agg (Ics.imp h k)
theorem Ics.imp {B B' : AV → AV → Prop} (h : ∀ a b, B a b → B' a b) : {a b : List AV} → Ics B a b → Ics B' a b
  | _, _, .nil => .nil
  | _, _, .cons k ks => .cons (Ic.imp h k) (Ics.imp h ks)
end
section
variable {P : Program} {nt : Nat} {c d : Code} {Q : Exit → St → Prop} {T : List (Nat × AV)} {S : List Slot} {p q n X Y sz sz2 : Nat} {t t2 : TypeId} {l l2 l2' : List AV} {st : St}
theorem AWP.iceX (X : Nat) (l' : List AV) (he : AV.frzs l = l') (hI : Ics (IceX X n t sz l') l2 l2') (k : AWP ro P nt c Q ⟨T, (S.set p (X, .used)).set q (Y, .row t2 sz2 l2')⟩) (hS : At S p (X, .row t sz l) := by exact At.f) (hq : At S q (Y, .row t2 sz2 l2) := by exact At.f) (hpq : Nat.beq p q = false := by rfl) (hn : n = l.length := by first | rfl | assumption | omega | (simp; omega) | simp [*]) : AWP ro P nt c Q ⟨T, S⟩ := by
  subst hn
  refine AWP.iceIn hS hq hpq (hI.imp fun a b h => ?_) k
  cases h
  have : AV.frzs ((l.drop 0).take l.length) = l' := by rw [List.drop_zero, List.take_length, he]
  rw [← this]
  exact .sl (by omega)
theorem AOps.iceX {ops : Array Oper} {rest : List Oper} (X : Nat) (l' : List AV) (he : AV.frzs l = l') (hI : Ics (IceX X n t sz l') l2 l2') (k : AOps ro P nt ops Q rest ⟨T, (S.set p (X, .used)).set q (Y, .row t2 sz2 l2')⟩) (hS : At S p (X, .row t sz l) := by exact At.f) (hq : At S q (Y, .row t2 sz2 l2) := by exact At.f) (hpq : Nat.beq p q = false := by rfl) (hn : n = l.length := by first | rfl | assumption | omega | (simp; omega) | simp [*]) : AOps ro P nt ops Q rest ⟨T, S⟩ := by
  subst hn
  refine AOps.iceIn hS hq hpq (hI.imp fun a b h => ?_) k
  cases h
  have : AV.frzs ((l.drop 0).take l.length) = l' := by rw [List.drop_zero, List.take_length, he]
  rw [← this]
  exact .sl (by omega)
end
/-- A cell that is nil reads as an empty list. -/
inductive NilB (t : TypeId) (sz : Nat) : AV → AV → Prop
  | nil : NilB t sz (.prim (.slice none 0 0)) (.lst false t sz [])
theorem St.nilIn {nt : Nat} {st : St} {q Y : Nat} {t2 : TypeId} {sz2 : Nat} {l2 l2' : List AV} (t : TypeId) (sz : Nat) (hq : At st.S q (Y, .row t2 sz2 l2)) (hI : Ics (NilB t sz) l2 l2') : St.To nt st fun st' => st' = ⟨st.T, st.S.set q (Y, .row t2 sz2 l2')⟩ := by
  rintro m0 a w ⟨m, N, Z, rfl, h2, h3, h4⟩
  obtain ⟨bs, hz⟩ := hq.z h2
  obtain ⟨R, hp1, hp2⟩ := perm_get hz
  have G := h3.perm hp1
  have hO : ORel m Y (.row t2 sz2 l2) bs := G.obj _ (List.mem_cons_self ..)
  have hO' := hI.orel (Mem.Le.refl m) (fun L h => h) (fun a b h => by cases h; rfl) (fun a b h c bs k => by
    cases h
    obtain ⟨⟨rfl, _⟩, rfl⟩ := k
    exact ⟨rfl, none, 0, rfl, Nat.le_refl _, by simp, fun h0 => by simp at h0⟩) rfl hO
  exact ⟨⟨st.T, st.S.set q (Y, .row t2 sz2 l2')⟩, ⟨m, N, Z.set q ((Y, .row t2 sz2 l2'), bs), rfl, by rw [List.map_set, h2], (Good.reval (A := []) G hO').perm (hp2 _).symm, h4⟩, rfl⟩
theorem AWP.nilIn {P : Program} {nt : Nat} {c : Code} {Q : Exit → St → Prop} {T : List (Nat × AV)} {S : List Slot} {q Y : Nat} {t2 : TypeId} {sz2 : Nat} {l2 l2' : List AV} (t : TypeId) (sz : Nat) (hI : Ics (NilB t sz) l2 l2') (k : AWP ro P nt c Q ⟨T, S.set q (Y, .row t2 sz2 l2')⟩) (hq : At S q (Y, .row t2 sz2 l2) := by exact At.f) : AWP ro P nt c Q ⟨T, S⟩ :=
  .ghost (St.nilIn (st := ⟨T, S⟩) t sz hq hI) fun st' e => by subst e; exact k
/-- Two ways that come together. -/
theorem AWP.join {P : Program} {nt : Nat} {c d : Code} {Q : Exit → St → Prop} {st : St} {β : Type} (R : β → Prop) (inv : β → St) (h1 : AWP ro P nt c (fun e st' => e = .normal ∧ ∃ b, R b ∧ st'.Le (inv b)) st) (h2 : ∀ b, R b → AWP ro P nt d Q (inv b)) : AWP ro P nt (.seq c d) Q st :=
  AWP.seq (h1.mono fun e st' ⟨he, b, hb, hle⟩ => by subst he; exact AWP.weak hle (h2 b hb))
theorem jn {β : Type} {R : β → Prop} {inv : β → St} {st : St} (b : β) (hR : R b) (h0 : st.Le (inv b) := by exact ⟨by exact Lk.f, by exact Sub.f⟩) : Exit.normal = Exit.normal ∧ ∃ b, R b ∧ st.Le (inv b) := ⟨rfl, b, hR, h0⟩
theorem AWP.joinS {P : Program} {nt : Nat} {c d : Code} {Q Q2 : Exit → St → Prop} {st : St} {β : Type} (R : β → Prop) (inv : β → St) (h1 : AWP ro P nt c (fun e st' => e = .normal ∧ ∃ b, R b ∧ st'.Le (inv b)) st) (h2 : ∀ b, R b → AWP ro P nt d Q (inv b)) : AWP ro P nt c (andThen (AWP ro P nt d Q) Q2) st :=
  h1.mono fun e st' ⟨he, b, hb, hle⟩ => by subst he; exact AWP.weak hle (h2 b hb)
/-- An object that a call has used up is used. -/
theorem Spec.used {P : Program} {f : FuncId} {args : List AV} {X : Nat} {t : TypeId} {sz : Nat} {l : List AV} {r : AV} (h : Spec P f args [(X, .row t sz l)] fun r' S' => r' = r ∧ S' = []) : Spec P f args [(X, .row t sz l)] fun r' S' => r' = r ∧ S' = [(X, .used)] :=
  ⟨h.fn, fun Sf m N Z vals h1 h2 h3 => (h.run Sf m N Z vals h1 h2 h3).mono fun e w' ⟨v, r', S', m', N', Z', br, a, b, hm, G, e', hr, hS⟩ => by
    subst hS
    simp only [List.nil_append] at hm
    cases Z with
    | nil => simp at h1
    | cons z Zr =>
      simp only [List.map_cons, List.cons_append, List.nil_append, List.cons.injEq] at h1
      obtain ⟨hz, hzr⟩ := h1
      have hO := h2.obj z (by simp)
      rw [hz] at hO
      have hU : m'.U X := G.le.U X hO.1
      have hk : ∀ Z1 : Zs, Z1.keys = (Z1.map (·.1)).map (·.1) := fun Z1 => by simp [Zs.keys]
      have hnk : X ∉ Z'.keys := by
        have := h2.keys
        rw [Zs.keys, List.map_cons, List.nodup_cons] at this
        rw [hk, hm, ← hzr, ← hk]
        have h0 := this.1
        rw [hz] at h0
        exact h0
      refine ⟨v, r', [(X, .used)], m', N', ((X, .used), []) :: Z', br, a, b, by simp [hm], ?_, e', hr, rfl⟩
      refine ⟨fun q hq => ?_, by simpa [Zs.own] using G.own, by simpa [Zs.own] using G.blk, G.frz, List.nodup_cons.2 ⟨hnk, G.keys⟩, fun x hx => ?_, G.usedN, G.le, G.os, G.tape, G.output, G.size⟩
      · rcases List.mem_cons.1 hq with rfl | hq
        · exact ⟨rfl, hU⟩
        · exact G.obj q hq
      · rcases List.mem_cons.1 hx with rfl | hx
        · exact G.usedN _ hU
        · exact G.keyN x hx⟩
end Go.Proofs.YtkoehhpfjpdkcaaGreat

namespace Go.Proofs.YtkoehhpfjpdkcaaGreat
set_option linter.unusedVariables false
variable {ro : Option Nat}
theorem Hos.at {a b x y : AV} : {L : List AV} → {k : Nat} → L[k]? = some x → Ho a b x y → Hos a b L (L.set k y)
  | [], k, h, _ => by simp at h
  | z :: L, 0, h, hh => by
    have : z = x := by simpa using h
    subst this
    exact .head hh
  | z :: L, k + 1, h, hh => .tail (Hos.at (L := L) (by simpa using h) hh)
section
variable {P : Program} {nt : Nat} {c : Code} {ops : Array Oper} {rest : List Oper} {Q : Exit → St → Prop} {T : List (Nat × AV)} {S : List Slot} {p q n X Y sz sz2 : Nat} {t t2 : TypeId} {l l2 l2' : List AV} {st : St}
end
section
variable {P : Program} {dst : Option Tmp} {ty t ty2 : TypeId} {pos : String} {after : Array Edge} {g : Option (Nat × Bool)} {T : List (Nat × AV)} {S : List Slot} {c : Option (List Bool)} {x y : Operand} {i j : Int}
theorem W.subE (k : Int) (h : i - j = k) (hr : -9223372036854775808 ≤ k ∧ k ≤ 9223372036854775807) (hx : Rd c T x (.prim (.int .i64 i))) (hy : Rd c T y (.prim (.int .i64 j))) : Stp c P ⟨dst, .binOp .sub t x y ty2, ty, pos, after, g⟩ T S [(x, .prim (.int .i64 i)), (y, .prim (.int .i64 j))] [] (.prim (.int .i64 k)) [] := h ▸ W.sub hx hy (h ▸ hr)
theorem W.addE (k : Int) (h : i + j = k) (hr : -9223372036854775808 ≤ k ∧ k ≤ 9223372036854775807) (hx : Rd c T x (.prim (.int .i64 i))) (hy : Rd c T y (.prim (.int .i64 j))) : Stp c P ⟨dst, .binOp .add t x y ty2, ty, pos, after, g⟩ T S [(x, .prim (.int .i64 i)), (y, .prim (.int .i64 j))] [] (.prim (.int .i64 k)) [] := h ▸ W.add hx hy (h ▸ hr)
end
section
variable {P : Program} {dst : Option Tmp} {ty t ty2 : TypeId} {pos : String} {after : Array Edge} {g : Option (Nat × Bool)} {T : List (Nat × AV)} {S : List Slot} {c : Option (List Bool)} {x y : Operand} {a b : Bool}
end
end Go.Proofs.YtkoehhpfjpdkcaaGreat

namespace Go.Proofs.YtkoehhpfjpdkcaaGreat
set_option linter.unusedVariables false
section
variable {P : Program} {nt : Nat} {ops : Array Oper} {Q : Exit → St → Prop} {rest : List Oper} {T : List (Nat × AV)} {S : List Slot} {op : Op} {ty : TypeId} {pos : String} {after : Array Edge} {dst : Option Tmp} {l : List Oper} {acc : List Eff}
/-- What stands for an operation that is left out: nothing that a guard takes for met. -/
abbrev noA : AV := .opt false (.prim (.bool false))
theorem RGo.goNU {g : Nat} {b b' : Bool} {t : Nat} (k : RGo P nt ops l Q rest (acc ++ [⟨⟨dst, op, ty, pos, after, some (g, b)⟩, [t], [], noA, []⟩]) ⟨putD T dst noA, S⟩) (ht : (ops[g]?).bind (·.dst) = some t := by rfl) (hv : look T t = some (.prim (.bool b')) := by rfl) (hb : b' = !b := by first | rfl | assumption | (simp only [Bool.not_true, Bool.not_false]; assumption)) (hd : dstOk dst nt = true := by rfl) : RGo P nt ops l Q (⟨dst, op, ty, pos, after, some (g, b)⟩ :: rest) acc ⟨T, S⟩ := by
  have e : (b' == b) = false := by rw [hb]; cases b <;> rfl
  refine RGo.step_ (fun r => ?_) k
  have := Run.stepQ (P := P) (nt := nt) (ops := ops) (o := ⟨dst, op, ty, pos, after, some (g, b)⟩) (st := ⟨T, S⟩) (xs := []) (rS := []) (v := .prim (.bool false)) (cs := []) rfl ht hv rfl (fun h => absurd (h (b' == b) (by simp)) (by rw [e]; simp)) .nil .nil hd rfl (by rw [e]; exact r)
  rw [e] at this
  exact this
end
end Go.Proofs.YtkoehhpfjpdkcaaGreat

namespace Go.Proofs.YtkoehhpfjpdkcaaGreat
set_option linter.unusedVariables false
section
variable {P : Program} {dst : Option Tmp} {ty t ty2 : TypeId} {pos : String} {after : Array Edge} {g : Option (Nat × Bool)} {T : List (Nat × AV)} {S : List Slot} {c : Option (List Bool)} {x y : Operand}
theorem OpT.shr {k k' : IntKind} {i j : Int} {n : Nat} (hj : j = (n : Int)) (hn : n ≤ k.bits) : OpT P ⟨dst, .binOp .shr t x y ty2, ty, pos, after, g⟩ [(x, .prim (.int k i)), (y, .prim (.int k' j))] [] (.prim (.int k (i.fdiv (2 ^ n)))) [] :=
  run_binOp rfl (fun w => by
    subst hj
    have h : ¬ ((n : Int) < 0) := by omega
    simp [binOp, Op.shift, h, Sem.run_pure, Nat.min_eq_left hn]) (.inl ⟨by simp, by simp⟩)
end
end Go.Proofs.YtkoehhpfjpdkcaaGreat

namespace Go.Proofs.YtkoehhpfjpdkcaaGreat
set_option linter.unusedVariables false
section
variable {P : Program} {dst : Option Tmp} {ty t ty2 : TypeId} {pos : String} {after : Array Edge} {g : Option (Nat × Bool)} {T : List (Nat × AV)} {S : List Slot} {c : Option (List Bool)} {x y : Operand}
theorem VCs.prims {m : Mem} : {us : List Value} → {c : List Value} → {bs : List Nat} → VCs m (us.map .prim) c bs → c = us ∧ bs = []
  | [], _, _, ⟨h, k⟩ => ⟨h, k⟩
  | u :: us, _, _, ⟨c1, c2, b1, b2, e1, e2, ⟨⟨h1, _⟩, h2⟩, h3⟩ => by
    obtain ⟨r1, r2⟩ := VCs.prims h3
    rw [e1, e2, h1, h2, r1, r2]
    exact ⟨rfl, rfl⟩
theorem VV.aggP {m : Mem} {us : List Value} {l : List AV} {v : Value} (hl : l = us.map .prim) (h : VV m (.agg l) v []) : v = .agg us.toArray := by
  subst hl
  obtain ⟨cells, e, h⟩ := (show ∃ cells, v = .agg cells ∧ VCs m (us.map .prim) cells.toList [] from h)
  rw [e]
  congr 1
  exact Array.toList_inj.1 (by simpa using h.prims.1)
/-- Equality and inequality of two structs of plain cells. -/
theorem OpT.eqP {us vs : List Value} {l1 l2 : List AV} {r : Bool} (h1 : l1 = us.map .prim) (h2 : l2 = vs.map .prim) (hg : P.eqGuardType P.depth t = false) (h : ∀ w, (binOp .eql t (.agg us.toArray) (.agg vs.toArray)).run P w = .ok (.bool r) w) : OpT P ⟨dst, .binOp .eql t x y ty2, ty, pos, after, g⟩ [(x, .agg l1), (y, .agg l2)] [] (.prim (.bool r)) [] :=
  .pure_ fun m a hx _ => by
    have h1 := (hx (x, .agg l1) (by simp)).aggP h1
    have h2 := (hx (y, .agg l2) (by simp)).aggP h2
    refine ⟨.bool r, ?_, vv_prim _ rfl⟩
    simp only at h1 h2
    simp [execOp, h1, h2, Sem.run_bind, Result.andThen_ok, run_eqGuard_agg _ _ _ _ _ _ _ hg, h]
theorem OpT.neP {us vs : List Value} {l1 l2 : List AV} {r : Bool} (h1 : l1 = us.map .prim) (h2 : l2 = vs.map .prim) (hg : P.eqGuardType P.depth t = false) (h : ∀ w, (binOp .neq t (.agg us.toArray) (.agg vs.toArray)).run P w = .ok (.bool r) w) : OpT P ⟨dst, .binOp .neq t x y ty2, ty, pos, after, g⟩ [(x, .agg l1), (y, .agg l2)] [] (.prim (.bool r)) [] :=
  .pure_ fun m a hx _ => by
    have h1 := (hx (x, .agg l1) (by simp)).aggP h1
    have h2 := (hx (y, .agg l2) (by simp)).aggP h2
    refine ⟨.bool r, ?_, vv_prim _ rfl⟩
    simp only at h1 h2
    simp [execOp, h1, h2, Sem.run_bind, Result.andThen_ok, run_eqGuard_agg _ _ _ _ _ _ _ hg, h]
theorem W.eqP (us vs : List Value) {l1 l2 : List AV} {r : Bool} (hg : P.eqGuardType P.depth t = false) (h : ∀ w, (binOp .eql t (.agg us.toArray) (.agg vs.toArray)).run P w = .ok (.bool r) w) (hx : Rd c T x (.agg l1)) (hy : Rd c T y (.agg l2)) (h1 : l1 = us.map .prim := by rfl) (h2 : l2 = vs.map .prim := by rfl) :
    Stp c P ⟨dst, .binOp .eql t x y ty2, ty, pos, after, g⟩ T S [(x, .agg l1), (y, .agg l2)] [] (.prim (.bool r)) [] := ⟨.eqP h1 h2 hg h, .cons hx (.cons hy .nil), .nil⟩
theorem W.neP (us vs : List Value) {l1 l2 : List AV} {r : Bool} (hg : P.eqGuardType P.depth t = false) (h : ∀ w, (binOp .neq t (.agg us.toArray) (.agg vs.toArray)).run P w = .ok (.bool r) w) (hx : Rd c T x (.agg l1)) (hy : Rd c T y (.agg l2)) (h1 : l1 = us.map .prim := by rfl) (h2 : l2 = vs.map .prim := by rfl) :
    Stp c P ⟨dst, .binOp .neq t x y ty2, ty, pos, after, g⟩ T S [(x, .agg l1), (y, .agg l2)] [] (.prim (.bool r)) [] := ⟨.neP h1 h2 hg h, .cons hx (.cons hy .nil), .nil⟩
end
/-- A struct of a string and two whole numbers. -/
def one3 (P : Program) (t : TypeId) : Bool := match (P.fieldsOf t).toList with
  | [f1, f2, f3] => f1.name != "_" && f2.name != "_" && f3.name != "_" && f1.offset == 0 && f2.offset == 1 && f3.offset == 2 && (match P.underlying f1.type, P.underlying f2.type, P.underlying f3.type with | some .string, some (.int _), some (.int _) => true | _, _, _ => false)
  | _ => false
theorem run_part_i {P : Program} {t : TypeId} {k : IntKind} {xs : Array Value} {off : Nat} {v : Value} (ht : P.underlying t = some (.int k)) (hx : xs[off]? = some v) (w : World) : (part t xs off).run P w = .ok v w := by
  simp [part, isAgg, run_underlying ht, hx, Sem.run_bind, Sem.run_pure, Result.andThen_ok]
theorem run_part_s {P : Program} {t : TypeId} {xs : Array Value} {off : Nat} {v : Value} (ht : P.underlying t = some .string) (hx : xs[off]? = some v) (w : World) : (part t xs off).run P w = .ok v w := by
  simp [part, isAgg, run_underlying ht, hx, Sem.run_bind, Sem.run_pure, Result.andThen_ok]
theorem eq_three {P : Program} {t : TypeId} (h1 : P.underlying t = some (.struct (P.fieldsOf t))) (h2 : P.stoodInHeld t = false) (h : one3 P t = true) (s s' : ByteArray) (a b c d : Int) (w : World) :
    (Op.equalIn 10000 t (.agg #[.string s, .int .i64 a, .int .i64 b]) (.agg #[.string s', .int .i64 c, .int .i64 d])).run P w = .ok (decide (s.toList = s'.toList) && decide (a = c) && decide (b = d)) w := by
  rw [show (10000 : Nat) = 9999 + 1 from rfl, run_equalIn_agg w 9999 t _ _ h1 h2]
  unfold one3 at h
  split at h
  · rename_i f1 f2 f3 hf
    simp only [Bool.and_eq_true, bne_iff_ne, ne_eq, beq_iff_eq] at h
    obtain ⟨⟨⟨⟨⟨⟨n1, n2⟩, n3⟩, o1⟩, o2⟩, o3⟩, hu⟩ := h
    split at hu
    · rename_i k2 k3 u1 u2 u3
      have p1 : ∀ (x : ByteArray) (y z : Int), (part f1.type #[.string x, .int .i64 y, .int .i64 z] f1.offset).run P w = .ok (.string x) w := fun x y z => run_part_s u1 (by rw [o1]; rfl) w
      have p2 : ∀ (x : ByteArray) (y z : Int), (part f2.type #[.string x, .int .i64 y, .int .i64 z] f2.offset).run P w = .ok (.int .i64 y) w := fun x y z => run_part_i u2 (by rw [o2]; rfl) w
      have p3 : ∀ (x : ByteArray) (y z : Int), (part f3.type #[.string x, .int .i64 y, .int .i64 z] f3.offset).run P w = .ok (.int .i64 z) w := fun x y z => run_part_i u3 (by rw [o3]; rfl) w
      have q1 : ∀ x y : ByteArray, (Op.equalIn 9999 f1.type (.string x) (.string y)).run P w = .ok (x.toList == y.toList) w := fun x y => run_equalIn_string (P := P) w 9998 f1.type x y u1
      have q2 : ∀ a c : Int, (Op.equalIn 9999 f2.type (.int .i64 a) (.int .i64 c)).run P w = .ok (a == c) w := fun a c => run_equalIn_int (P := P) w 9998 f2.type .i64 k2 a c u2
      have q3 : ∀ a c : Int, (Op.equalIn 9999 f3.type (.int .i64 a) (.int .i64 c)).run P w = .ok (a == c) w := fun a c => run_equalIn_int (P := P) w 9998 f3.type .i64 k3 a c u3
      rw [hf]
      by_cases e1 : s.toList = s'.toList
      · by_cases e2 : a = c
        · by_cases e3 : b = d
          · simp [Op.eqFields, n1, n2, n3, Sem.run_bind, p1, p2, p3, q1, q2, q3, e1, e2, e3, Sem.run_pure, Sem.run_ite, Result.andThen_ok]
          · simp [Op.eqFields, n1, n2, n3, Sem.run_bind, p1, p2, p3, q1, q2, q3, e1, e2, e3, Sem.run_pure, Sem.run_ite, Result.andThen_ok]
        · simp [Op.eqFields, n1, n2, Sem.run_bind, p1, p2, q1, q2, e1, e2, Sem.run_pure, Sem.run_ite, Result.andThen_ok]
      · simp [Op.eqFields, n1, Sem.run_bind, p1, q1, e1, Sem.run_pure, Sem.run_ite, Result.andThen_ok]
    · cases hu
  · cases h
/-- A struct of two whole numbers. -/
def two2 (P : Program) (t : TypeId) : Bool := match (P.fieldsOf t).toList with
  | [f1, f2] => f1.name != "_" && f2.name != "_" && f1.offset == 0 && f2.offset == 1 && (match P.underlying f1.type, P.underlying f2.type with | some (.int _), some (.int _) => true | _, _ => false)
  | _ => false
theorem run_part_int {P : Program} {t : TypeId} {k : IntKind} {xs : Array Value} {off : Nat} {v : Value} (ht : P.underlying t = some (.int k)) (hx : xs[off]? = some v) (w : World) : (part t xs off).run P w = .ok v w := by
  simp [part, isAgg, run_underlying ht, hx, Sem.run_bind, Sem.run_pure, Result.andThen_ok]
theorem eql_two {P : Program} {t : TypeId} (h1 : P.underlying t = some (.struct (P.fieldsOf t))) (h2 : P.stoodInHeld t = false) (h : two2 P t = true) (a b c d : Int) (w : World) : (binOp .eql t (.agg #[.int .i64 a, .int .i64 b]) (.agg #[.int .i64 c, .int .i64 d])).run P w = .ok (.bool (decide (a = c) && decide (b = d))) w := by
  rw [run_eql_struct, show (10000 : Nat) = 9999 + 1 from rfl, run_equalIn_agg w 9999 t _ _ h1 h2]
  unfold two2 at h
  split at h
  · rename_i f1 f2 hf
    simp only [Bool.and_eq_true, bne_iff_ne, ne_eq, beq_iff_eq] at h
    obtain ⟨⟨⟨⟨n1, n2⟩, o1⟩, o2⟩, hu⟩ := h
    split at hu
    · rename_i k1 k2 u1 u2
      have p1 : ∀ x y : Int, (part f1.type #[.int .i64 x, .int .i64 y] f1.offset).run P w = .ok (.int .i64 x) w := fun x y => run_part_int u1 (by rw [o1]; rfl) w
      have p2 : ∀ x y : Int, (part f2.type #[.int .i64 x, .int .i64 y] f2.offset).run P w = .ok (.int .i64 y) w := fun x y => run_part_int u2 (by rw [o2]; rfl) w
      have q1 : ∀ a c : Int, (Op.equalIn 9999 f1.type (.int .i64 a) (.int .i64 c)).run P w = .ok (a == c) w := fun a c => run_equalIn_int (P := P) w 9998 f1.type .i64 k1 a c u1
      have q2 : ∀ a c : Int, (Op.equalIn 9999 f2.type (.int .i64 a) (.int .i64 c)).run P w = .ok (a == c) w := fun a c => run_equalIn_int (P := P) w 9998 f2.type .i64 k2 a c u2
      rw [hf]
      by_cases e1 : a = c
      · by_cases e2 : b = d
        · simp [Op.eqFields, n1, n2, Sem.run_bind, p1, p2, q1, q2, e1, e2, Sem.run_pure, Sem.run_ite, Result.andThen_ok]
        · simp [Op.eqFields, n1, n2, Sem.run_bind, p1, p2, q1, q2, e1, e2, Sem.run_pure, Sem.run_ite, Result.andThen_ok]
      · simp [Op.eqFields, n1, Sem.run_bind, p1, q1, e1, Sem.run_pure, Sem.run_ite, Result.andThen_ok]
    · cases hu
  · cases h
end Go.Proofs.YtkoehhpfjpdkcaaGreat

namespace Go.Proofs.YtkoehhpfjpdkcaaGreat
set_option linter.unusedVariables false
open Go.RowKit
section
variable {m0 m : Mem} {N : Nat} {X sz : Nat} {t : TypeId} {l : List AV} {R : Zs} {ex : List Nat}
end
section
variable {P : Program} {dst : Option Tmp} {ty t te t2 : TypeId} {pos : String} {after : Array Edge} {g : Option (Nat × Bool)} {x y : Operand} {p q r sz X Y Z : Nat} {l l2 : List AV}
theorem set_self {α : Type} {S : List α} {p : Nat} {z : α} (h : S[p]? = some z) : S.set p z = S := by
  obtain ⟨h5, h6⟩ := List.getElem?_eq_some_iff.1 h
  have h7 := List.set_getElem_self h5
  rw [h6] at h7; exact h7
end
section
variable {ro : Option Nat} {P : Program} {nt p sz X : Nat} {t : TypeId} {l : List AV}
end
end Go.Proofs.YtkoehhpfjpdkcaaGreat

namespace Go.Proofs.YtkoehhpfjpdkcaaGreat
set_option linter.unusedVariables false
open Go.RowKit
section
variable {P : Program} {dst : Option Tmp} {ty t te tx : TypeId} {pos : String} {after : Array Edge} {g : Option (Nat × Bool)} {x y : Operand} {p q r sz X Y Z : Nat} {l : List AV}
end
end Go.Proofs.YtkoehhpfjpdkcaaGreat

namespace Go.Proofs.YtkoehhpfjpdkcaaGreat
set_option linter.unusedVariables false
open Go.RowKit
section
variable {P : Program} {dst : Option Tmp} {ty t te tx : TypeId} {pos : String} {after : Array Edge} {g : Option (Nat × Bool)} {x y : Operand} {p q r sz X Y Z V : Nat} {l l2 : List AV}
end
section
variable {P : Program} {dst : Option Tmp} {ty t te tx ty2 : TypeId} {pos : String} {after : Array Edge} {g : Option (Nat × Bool)} {x y : Operand} {p q r sz X Y Z V by_ : Nat} {l l2 : List AV} {T : List (Nat × AV)} {S : List Slot} {c : Option (List Bool)} {k k' k0 : IntKind} {qi qj : Int}
end
end Go.Proofs.YtkoehhpfjpdkcaaGreat

namespace Go.Proofs.YtkoehhpfjpdkcaaGreat
set_option linter.unusedVariables false
set_option linter.unusedSimpArgs false
open Go.RowKit
section
variable {P : Program} {m0 m : Mem} {N X Y : Nat} {R : Zs} {ex : List Nat} {t te ty t2 : TypeId} {sz by_ : Nat} {l ls : List AV} {dst : Option Tmp} {pos : String} {after : Array Edge} {g : Option (Nat × Bool)} {x y z u : Operand} {p q : Nat}
/-- An append onto nil: a new row. -/
theorem OpT.app_nil {t' : TypeId} (T : tRow P t = some (te, sz, by_)) (hb : ls.length * by_ ≤ 140737488355328) (hm : ls.length ≤ maxLen) : OpT P ⟨dst, .call ⟨.builtin .append, #[x, y], #[t, t]⟩, ty, pos, after, g⟩ [(x, .prim (.slice none 0 0)), (y, .lst false t' sz ls)] [(q, (Y, .gone))] (.sl Y 0 ls.length) [(q, (Y, .row te sz ls))] := by
  intro nt m0 T' S a w hx hS hd hr
  obtain ⟨m1, N1, Z1, rfl, h2, h3, h4⟩ := hr
  have h2' : Z1.map (·.1) = S := h2
  have hxa := (h4.ev (hx (x, .prim (.slice none 0 0)) (by simp))).prim
  have hya : VV m1 (.lst false t' sz ls) (a.eval y) [] := h4.ev (hx (y, .lst false t' sz ls) (by simp))
  have hSq := hS (q, (Y, .gone)) (by simp)
  rw [← h2', List.getElem?_map] at hSq
  cases hz : Z1[q]? with
  | none => rw [hz] at hSq; cases hSq
  | some z =>
    rw [hz] at hSq
    simp only [Option.map_some, Option.some.injEq] at hSq
    obtain ⟨z1, bsY⟩ := z
    simp only at hSq
    subst hSq
    obtain ⟨R, hp1, hp2⟩ := perm_get hz
    obtain ⟨m, hmw, G, hle0, hvn⟩ := Good.adopt (h3.perm hp1) te sz
    have G' := G.perm (List.Perm.swap ..)
    have hya2 : VV m (.lst false t' sz ls) (a.eval y) [] := hya.mono hle0 (by simp)
    have hvn' : VV m (.sl N1 0 ([] : List AV).length) (.slice none 0 0) [] := hvn
    obtain ⟨xs, bs0, hown, hv, hwl, hbs⟩ := ORel.owns (G'.obj ((N1, .row te sz []), []) (by simp)) hvn'
    obtain ⟨_, A, c, e1, hkc, hws, hrd⟩ := hya2
    injection e1 with e1
    obtain ⟨news, hnl, hnc, hnv⟩ : ∃ news : List Value, news.length = ls.length * sz ∧ (0 < ls.length → ∃ b off, A = some ⟨b, off, none⟩ ∧ ∀ j u, news[j]? = some u → m.w.cell? ⟨b, off + j, none⟩ = some u) ∧ VCs m ls news [] := by
      rcases Nat.eq_zero_or_pos ls.length with h0 | h0
      · have : ls = [] := List.eq_nil_of_length_eq_zero h0
        subst this
        exact ⟨[], by simp, fun h => absurd h (by simp), VCs.nil⟩
      · obtain ⟨b, off, arr, tt, r, hA, hF, hb, hc⟩ := hrd h0
        refine ⟨_, by rw [VCs.len _ hc, widths_of hws], fun _ => ⟨b, off, hA, fun j u hj => ?_⟩, hc⟩
        rw [List.getElem?_take] at hj
        split at hj
        · rw [List.getElem?_drop] at hj
          simp only [World.cell?, hb]
          simpa using hj
        · cases hj
    obtain ⟨v', w', hrun, hown', hg, hat⟩ := run_append_any T m.w ty hown hkc hnl hnc (VCs.ones _ hnv) (by simpa using hb) (by simpa using hm)
    obtain ⟨m', bs', hw', G2, hle, hv'⟩ := Good.app G' hv hnv (fun e he => by rcases List.mem_append.1 he with h | h; exact hwl e h; exact hws e h) hbs hown' hg hat
    have hex : (execOp a.eval ⟨dst, .call ⟨.builtin .append, #[x, y], #[t, t]⟩, ty, pos, after, g⟩).run P m1.w = .ok (.value v') w' := by
      rw [run_builtin, ← hmw]
      simp only [builtin, List.map_toArray, List.map_cons, List.map_nil, e1, show a.eval x = _ from hxa, Sem.run_bind, hrun, Result.andThen_ok, Sem.run_pure]
    unfold Oper.wp
    rw [hex]
    have G3 := G2.sub (List.sublist_cons_self _ _)
    simp only [List.length_nil, Nat.zero_add, List.nil_append] at G3 hv'
    refine ⟨m', N1 + 1, _, hw', ?_, G3.perm (hp2 _).symm, (h4.mono (hle0.trans hle)).put hd hv'⟩
    rw [List.map_set, h2']; rfl
/-- What the elements of a row own is frozen. -/
theorem St.frzRow {nt : Nat} {st : St} {l' : List AV} (he : AV.frzs l = l') (hS : At st.S p (X, .row t sz l)) : St.To nt st fun st' => st' = ⟨st.T, st.S.set p (X, .row t sz l')⟩ := by
  subst he
  intro m0 a w hr
  obtain ⟨m, N, Z, rfl, h2, h3, h4⟩ := hr
  obtain ⟨bs, hz⟩ := hS.z h2
  obtain ⟨R, hp1, hp2⟩ := perm_get hz
  have G := h3.perm hp1
  obtain ⟨hU, L, hL, hLs, hO⟩ := G.obj _ (List.mem_cons_self ..)
  rcases hO with ⟨h5, h6, h7⟩ | ⟨hnil, arr, bs', hbs, hb, harr, hlc, hcap, hw, hv⟩
  · have h6' : l = [] := h6
    subst h6'
    refine ⟨⟨st.T, st.S.set p (X, .row t sz (AV.frzs []))⟩, ⟨m, N, Z, rfl, ?_, h3, h4⟩, rfl⟩
    show Z.map (·.1) = st.S.set p (X, .row t sz [])
    rw [set_self (by rw [← h2, List.getElem?_map, hz]; rfl)]
    exact h2
  · have hbs' : bs = L.blk :: bs' := hbs
    subst hbs'
    have G1 : Good m0 m N (((X, .gone), []) :: R) ([] : List Nat) ∨ True := .inr trivial
    clear G1
    have hp : (Zs.own (((X, AO.row t sz l), L.blk :: bs') :: R) ++ []).Perm (Zs.own (((X, AO.row t sz (AV.frzs l)), [L.blk]) :: R) ++ bs') := by
      simp only [own_cons, List.append_nil]
      rw [List.cons_append, List.singleton_append, List.cons_append]
      exact List.Perm.cons _ List.perm_append_comm
    have hnd := hp.nodup_iff.1 G.own
    have hgb : L.blk ∉ bs' := by
      intro h
      have h1 := List.nodup_append.1 hnd
      exact h1.2.2 L.blk (by simp [own_cons]) L.blk h rfl
    have hle : m.Le { m with F := fun b => m.F b ∨ b ∈ bs' } := ⟨fun _ h => h, fun _ _ _ h => h, fun b hb => ⟨.inl hb, rfl⟩⟩
    have hO' : ORel { m with F := fun b => m.F b ∨ b ∈ bs' } X (.row t sz (AV.frzs l)) [L.blk] :=
      ⟨hU, L, hL, hLs, .inr ⟨hnil, arr, [], rfl, hb, harr, by rw [frzs_len]; exact hlc, hcap, fun e he => by
        rw [frzs_map] at he
        obtain ⟨e', he', rfl⟩ := List.mem_map.1 he
        rw [frz_width]; exact hw e' he', by rw [frzs_len]; exact VCs.frz hle l (fun b hb => ⟨.inr hb, rfl⟩) hv⟩⟩
    have hblk : ∀ b ∈ Zs.own (((X, AO.row t sz (AV.frzs l)), [L.blk]) :: R) ++ bs', b < m.w.heap.size ∧ ¬ m.F b := fun b hb => G.blk b (hp.mem_iff.2 hb)
    have G2 : Good m0 { m with F := fun b => m.F b ∨ b ∈ bs' } N (((X, .row t sz (AV.frzs l)), [L.blk]) :: R) [] := by
      refine ⟨fun z hz' => ?_, ?_, fun b hb' => ?_, fun b hb' => ?_, G.keys, G.keyN, G.usedN, G.le.trans hle, G.os, G.tape, G.output, G.size⟩
      · rcases List.mem_cons.1 hz' with rfl | hz'
        · exact hO'
        · refine ORel.mono hle (fun hg => ?_) (fun L h => h) (fun b hb => rfl) (G.obj z (List.mem_cons_of_mem _ hz'))
          have := G.obj z (List.mem_cons_of_mem _ hz')
          rw [hg] at this
          exact this.2
      · rw [List.append_nil]
        exact (List.nodup_append.1 hnd).1
      · rw [List.append_nil] at hb'
        obtain ⟨k1, k2⟩ := hblk b (List.mem_append_left _ hb')
        refine ⟨k1, ?_⟩
        rintro (h | h)
        · exact k2 h
        · exact (List.nodup_append.1 hnd).2.2 b hb' b h rfl
      · rcases hb' with h | h
        · exact G.frz b h
        · exact (hblk b (List.mem_append_right _ h)).1
    refine ⟨⟨st.T, st.S.set p (X, .row t sz (AV.frzs l))⟩, ⟨{ m with F := fun b => m.F b ∨ b ∈ bs' }, N, Z.set p ((X, .row t sz (AV.frzs l)), [L.blk]), rfl, ?_, G2.perm (hp2 _).symm, h4.mono hle⟩, rfl⟩
    rw [List.map_set]
    show (Z.map (·.1)).set p _ = _
    rw [show Z.map (·.1) = st.S from h2]
end
end Go.Proofs.YtkoehhpfjpdkcaaGreat

namespace Go.Proofs.YtkoehhpfjpdkcaaGreat
set_option linter.unusedVariables false
set_option linter.unusedSimpArgs false
open Go.RowKit
section
variable {P : Program} {ro : Option Nat} {nt : Nat} {ops : Array Oper} {Q : Exit → St → Prop} {rest : List Oper} {T : List (Nat × AV)} {S : List Slot} {ty t te t2 t' ty2 : TypeId} {pos : String} {after : Array Edge} {dst : Option Tmp} {c : Option (List Bool)} {g : Option (Nat × Bool)} {x y z u : Operand} {X Y p q sz by_ : Nat} {l ls : List AV} {cd : Code}
theorem W.appN [TRo P t te sz by_] (hb : ls.length * by_ ≤ 140737488355328) (hm : ls.length ≤ maxLen) (hx : Rd c T x (.prim (.slice none 0 0))) (hy : Rd c T y (.lst false t' sz ls)) (hSq : At S q (Y, .gone)) :
    Stp c P ⟨dst, .call ⟨.builtin .append, #[x, y], #[t, t]⟩, ty, pos, after, g⟩ T S [(x, .prim (.slice none 0 0)), (y, .lst false t' sz ls)] [(q, (Y, .gone))] (.sl Y 0 ls.length) [(q, (Y, .row te sz ls))] :=
  ⟨.app_nil TRo.h hb hm, .cons hx (.cons hy .nil), .cons hSq .nil⟩
theorem AWP.frzRow (X : Nat) (l' : List AV) (he : AV.frzs l = l') (k : AWP ro P nt cd Q ⟨T, S.set p (X, .row t sz l')⟩) (hS : At S p (X, .row t sz l) := by exact At.f) : AWP ro P nt cd Q ⟨T, S⟩ :=
  .ghost (St.frzRow (st := ⟨T, S⟩) he hS) fun st' e => by subst e; exact k
end
end Go.Proofs.YtkoehhpfjpdkcaaGreat

namespace Go.Proofs.YtkoehhpfjpdkcaaGreat
set_option linter.unusedVariables false
section
variable {ro : Option Nat} {P : Program} {nt : Nat} {ops : Array Oper} {Q : Exit → St → Prop} {rest : List Oper} {T : List (Nat × AV)} {S : List Slot} {ty t te : TypeId} {sz : Nat} {x y : Operand} {pos : String} {after : Array Edge} {dst : Option Tmp}
theorem AOps.goL2 {zl : List Value} {ag : Bool} (v u : AV) (k : AOps ro P nt ops Q rest ⟨putD T dst (.lst false te sz [v, u]), S⟩) [TEl P t te] [TZe P te zl] [TSize P te sz] [TAg P te ag] [hz : Frz v v] [hz2 : Frz u u] (h0 : Rd none T x v := by exact rfl) (h1 : Rd none T y u := by exact rfl) (hzs : zl.length = sz := by exact rfl) (hag : ag = true ∨ zl.length = 1 := by first | exact .inl rfl | exact .inr rfl) (hn : 2 * sz ≤ 16777216 := by decide) (hpos : 0 < 2 * sz := by decide) (hf : fillE sz (List.replicate 2 (zAV zl ag)) [(0, v), (1, u)] = some [v, u] := by exact rfl) (hd : dstOk dst nt = true := by rfl) : AOps ro P nt ops Q (⟨dst, .buildSlice t 2 #[(0, x), (1, y)], ty, pos, after, none⟩ :: rest) ⟨T, S⟩ :=
  AOps.p (W.litF2 h0 h1 hzs hag hn hpos hf) hd k
end
end Go.Proofs.YtkoehhpfjpdkcaaGreat

namespace Go.Proofs.YtkoehhpfjpdkcaaGreat
set_option linter.unusedVariables false
theorem Ends.cv {P : Program} {res : List ResultVar} {Sf : List Slot} {st : St} {r : AV} {S1 : List Slot} (rs rs' : List AV) (c : CVs st.S rs rs' S1) (e : packR rs' = r := by rfl) (h : ResVs P st res rs := by (repeat (first | exact .nil | refine .cons (.tmp (by rfl)) (by rfl) ?_ | refine .cons (.cell (by rfl) (by exact At.f) TAg.h TSize.h (by exact rfl) (by exact rfl)) (by rfl) ?_))) (hS : Sf.Sublist S1 := by exact Sub.f) : Ends P res Sf (fun r' S' => r' = r ∧ S' = []) st := ⟨rs, rs', S1, [], h, c, hS, e, rfl⟩
/-- The results as they stand, and the objects S'. -/
theorem Ends.sp {P : Program} {res : List ResultVar} {Sf : List Slot} {Q : AV → List Slot → Prop} {st : St} (rs : List AV) (S' : List Slot) (e : Q (packR rs) S') (h : ResVs P st res rs := by (repeat (first | exact .nil | refine .cons (.tmp (by rfl)) (by rfl) ?_ | refine .cons (.cell (by rfl) (by exact At.f) TAg.h TSize.h (by exact rfl) (by exact rfl)) (by rfl) ?_))) (hS : (S' ++ Sf).Sublist st.S := by exact Sub.f) : Ends P res Sf Q st := ⟨rs, rs, st.S, S', h, CVs_id _ _, hS, e⟩
section
variable {P : Program} {dst : Option Tmp} {ty t ty2 : TypeId} {pos : String} {after : Array Edge} {g : Option (Nat × Bool)} {T : List (Nat × AV)} {S : List Slot} {c : Option (List Bool)} {x y : Operand} {i j : Int}
end
end Go.Proofs.YtkoehhpfjpdkcaaGreat

namespace Go.Proofs.YtkoehhpfjpdkcaaGreat
set_option linter.unusedVariables false
abbrev uA (x : UInt64) : AV := .prim (.int .u64 ((x.toNat : Nat) : Int))
section
variable {P : Program} {dst : Option Tmp} {ty t ty2 : TypeId} {pos : String} {after : Array Edge} {g : Option (Nat × Bool)} {T : List (Nat × AV)} {S : List Slot} {c : Option (List Bool)} {x y : Operand} {i j : Int} {k k' : IntKind} {a b : UInt64}
theorem OpT.res {o : Oper} {xs : List (Operand × AV)} {rS wS : List (Nat × Slot)} {r r' : Int} (h : OpT P o xs rS (.prim (.int k r)) wS) (e : r = r') : OpT P o xs rS (.prim (.int k r')) wS := e ▸ h
theorem u64_lt (a : UInt64) : a.toNat < 18446744073709551616 := a.toNat_lt
theorem OpT.bitsI {bop : BinOp} (hb : bop = .and ∨ bop = .or ∨ bop = .xor) : OpT P ⟨dst, .binOp bop t x y ty2, ty, pos, after, g⟩ [(x, .prim (.int k i)), (y, .prim (.int k j))] [] (.prim (.int k (bits bop k i j))) [] :=
  run_binOp rfl (fun w => by
    rcases hb with rfl | rfl | rfl
    · rw [binOp_and, intBits_and]; rfl
    · rw [binOp_or, intBits_or]; rfl
    · rw [binOp_xor, intBits_xor]; rfl) (.inl (by rcases hb with rfl | rfl | rfl <;> exact ⟨by simp, by simp⟩))
theorem W.andU (hx : Rd c T x (uA a)) (hy : Rd c T y (uA b)) : Stp c P ⟨dst, .binOp .and t x y ty2, ty, pos, after, g⟩ T S [(x, uA a), (y, uA b)] [] (uA (a &&& b)) [] := by
  have h := u64_and_nat a.toNat b.toNat (u64_lt a) (u64_lt b)
  rw [← UInt64.toNat_and] at h
  exact ⟨.res (OpT.bitsI (.inl rfl)) h, .cons hx (.cons hy .nil), .nil⟩
theorem W.orU (hx : Rd c T x (uA a)) (hy : Rd c T y (uA b)) : Stp c P ⟨dst, .binOp .or t x y ty2, ty, pos, after, g⟩ T S [(x, uA a), (y, uA b)] [] (uA (a ||| b)) [] := by
  have h := u64_or_nat a.toNat b.toNat (u64_lt a) (u64_lt b)
  rw [← UInt64.toNat_or] at h
  exact ⟨.res (OpT.bitsI (.inr (.inl rfl))) h, .cons hx (.cons hy .nil), .nil⟩
theorem W.xorU (hx : Rd c T x (uA a)) (hy : Rd c T y (uA b)) : Stp c P ⟨dst, .binOp .xor t x y ty2, ty, pos, after, g⟩ T S [(x, uA a), (y, uA b)] [] (uA (a ^^^ b)) [] := by
  have h := u64_xor_nat a.toNat b.toNat (u64_lt a) (u64_lt b)
  rw [← UInt64.toNat_xor] at h
  exact ⟨.res (OpT.bitsI (.inr (.inr rfl))) h, .cons hx (.cons hy .nil), .nil⟩
theorem wrapU (n : Int) : IntKind.u64.wrap n = n % 18446744073709551616 := IntKind.wrap_u64 n
theorem W.addU (hx : Rd c T x (uA a)) (hy : Rd c T y (uA b)) : Stp c P ⟨dst, .binOp .add t x y ty2, ty, pos, after, g⟩ T S [(x, uA a), (y, uA b)] [] (uA (a + b)) [] := by
  have h : IntKind.u64.wrap ((a.toNat : Int) + b.toNat) = (((a + b).toNat : Nat) : Int) := by
    rw [wrapU, UInt64.toNat_add]; omega
  exact ⟨.res (OpT.int_arith_add) h, .cons hx (.cons hy .nil), .nil⟩
theorem W.subU (hx : Rd c T x (uA a)) (hy : Rd c T y (uA b)) : Stp c P ⟨dst, .binOp .sub t x y ty2, ty, pos, after, g⟩ T S [(x, uA a), (y, uA b)] [] (uA (a - b)) [] := by
  have h : IntKind.u64.wrap ((a.toNat : Int) - b.toNat) = (((a - b).toNat : Nat) : Int) := by
    have h1 := u64_lt a
    have h2 := u64_lt b
    rw [wrapU, UInt64.toNat_sub]; omega
  exact ⟨.res (OpT.int_arith_sub) h, .cons hx (.cons hy .nil), .nil⟩
theorem W.mulU (hx : Rd c T x (uA a)) (hy : Rd c T y (uA b)) : Stp c P ⟨dst, .binOp .mul t x y ty2, ty, pos, after, g⟩ T S [(x, uA a), (y, uA b)] [] (uA (a * b)) [] := by
  have h : IntKind.u64.wrap ((a.toNat : Int) * b.toNat) = (((a * b).toNat : Nat) : Int) := by
    rw [wrapU, UInt64.toNat_mul, Int.natCast_emod, Int.natCast_mul]; rfl
  exact ⟨.res (OpT.int_arith_mul) h, .cons hx (.cons hy .nil), .nil⟩
/-- A shift by fewer than 64 bits. -/
theorem W.shlU (n : Nat) (hn : n < 64) (hx : Rd c T x (uA a)) (hy : Rd c T y (.prim (.int k' j))) (hj : j = (n : Int)) : Stp c P ⟨dst, .binOp .shl t x y ty2, ty, pos, after, g⟩ T S [(x, uA a), (y, .prim (.int k' j))] [] (uA (a <<< UInt64.ofNat n)) [] := by
  have h : IntKind.u64.wrap ((a.toNat : Int) * 2 ^ n) = (((a <<< UInt64.ofNat n).toNat : Nat) : Int) := by
    rw [wrapU, UInt64.toNat_shiftLeft, UInt64.toNat_ofNat', show n % 2 ^ 64 % 64 = n by omega, Nat.shiftLeft_eq, Int.natCast_emod, Int.natCast_mul, Int.natCast_pow]; rfl
  exact ⟨.res (OpT.shl hj (by show n ≤ 64; omega)) h, .cons hx (.cons hy .nil), .nil⟩
theorem W.shrU (n : Nat) (hn : n < 64) (hx : Rd c T x (uA a)) (hy : Rd c T y (.prim (.int k' j))) (hj : j = (n : Int)) : Stp c P ⟨dst, .binOp .shr t x y ty2, ty, pos, after, g⟩ T S [(x, uA a), (y, .prim (.int k' j))] [] (uA (a >>> UInt64.ofNat n)) [] := by
  have h : (a.toNat : Int).fdiv (2 ^ n) = (((a >>> UInt64.ofNat n).toNat : Nat) : Int) := by
    rw [UInt64.toNat_shiftRight, UInt64.toNat_ofNat', show n % 2 ^ 64 % 64 = n by omega, Nat.shiftRight_eq_div_pow, Int.fdiv_eq_ediv_of_nonneg _ (Int.pow_nonneg (by decide)), Int.natCast_ediv, Int.natCast_pow]; rfl
  exact ⟨.res (OpT.shr hj (by show n ≤ 64; omega)) h, .cons hx (.cons hy .nil), .nil⟩
theorem OpT.convW {t2 : TypeId} {k0 : IntKind} (h1 : P.underlying t = some (.int k0)) (h2 : P.underlying t2 = some (.int k')) : OpT P ⟨dst, .convert t t2 x, ty, pos, after, g⟩ [(x, .prim (.int k i))] [] (.prim (.int k' (k'.wrap i))) [] :=
  .pure_ fun m a hx _ => by
    have e1 := (hx (x, .prim (.int k i)) (by simp)).prim
    refine ⟨.int k' (k'.wrap i), ?_, vv_prim _ rfl⟩
    simp only at e1
    simp [execOp, e1, convert, run_underlying h1, run_underlying h2, Conv.intToInt, Sem.run_bind, Sem.run_pure, Result.andThen_ok]
theorem W.convW {t2 : TypeId} (k0 k' : IntKind) (r : Int) (h1 : P.underlying t = some (.int k0)) (h2 : P.underlying t2 = some (.int k')) (hw : k'.wrap i = r) (hx : Rd c T x (.prim (.int k i))) : Stp c P ⟨dst, .convert t t2 x, ty, pos, after, g⟩ T S [(x, .prim (.int k i))] [] (.prim (.int k' r)) [] := ⟨.res (OpT.convW h1 h2) hw, .cons hx .nil, .nil⟩
theorem wrapU_ofInt (i : Int) : IntKind.u64.wrap i = (((UInt64.ofInt i).toNat : Nat) : Int) := by
  rw [wrapU]
  unfold UInt64.ofInt
  rw [UInt64.toNat_ofNat']
  omega
/-- Any whole number as an unsigned one. -/
theorem W.toU {t2 : TypeId} (k0 : IntKind) (h1 : P.underlying t = some (.int k0)) (h2 : P.underlying t2 = some (.int .u64)) (hx : Rd c T x (.prim (.int k i))) : Stp c P ⟨dst, .convert t t2 x, ty, pos, after, g⟩ T S [(x, .prim (.int k i))] [] (uA (UInt64.ofInt i)) [] := W.convW k0 .u64 _ h1 h2 (wrapU_ofInt i) hx
/-- A number as an unsigned one, told by its value. -/
theorem W.toUN {t2 : TypeId} (k0 : IntKind) (n : Nat) (hi : i = (n : Int)) (hn : n < 18446744073709551616) (h1 : P.underlying t = some (.int k0)) (h2 : P.underlying t2 = some (.int .u64)) (hx : Rd c T x (.prim (.int k i))) : Stp c P ⟨dst, .convert t t2 x, ty, pos, after, g⟩ T S [(x, .prim (.int k i))] [] (uA (UInt64.ofNat n)) [] := by
  refine W.convW k0 .u64 _ h1 h2 ?_ hx
  rw [wrapU, UInt64.toNat_ofNat', Nat.mod_eq_of_lt (by omega)]
  omega
/-- An unsigned number that is small, as an int. -/
theorem W.ofUN {t2 : TypeId} (k0 : IntKind) (hn : a.toNat < 9223372036854775808) (h1 : P.underlying t = some (.int k0)) (h2 : P.underlying t2 = some (.int .i64)) (hx : Rd c T x (uA a)) : Stp c P ⟨dst, .convert t t2 x, ty, pos, after, g⟩ T S [(x, uA a)] [] (.prim (.int .i64 ((a.toNat : Nat) : Int))) [] :=
  W.convW k0 .i64 _ h1 h2 (wrap_id (by omega) (by omega)) hx
end
end Go.Proofs.YtkoehhpfjpdkcaaGreat

namespace Go.Proofs.YtkoehhpfjpdkcaaGreat
set_option linter.unusedVariables false
mutual
/-- Values that refer to nothing but what they own. -/
def AV.loose : AV → Bool
  | .prim _ => true
  | .dead => true
  | .agg cs => AV.looses cs
  | .tup vs => AV.looses vs
  | .lst o _ _ l => (o || l.isEmpty) && AV.looses l
  | .bx _ a => AV.loose a
  | .fn _ cap => AV.looses cap
  | _ => false
def AV.looses : List AV → Bool
  | [] => true
  | a :: as => AV.loose a && AV.looses as
end
theorem looses_map {α : Type} {f : α → AV} (h : ∀ a, (f a).loose = true) (l : List α) : AV.looses (l.map f) = true := by
  induction l with
  | nil => rfl
  | cons a l ih => rw [List.map_cons, AV.looses, h a, ih]; rfl
section
variable {m m' : Mem}
mutual
theorem VC.loose (hw : m'.w = m.w) : (a : AV) → {c : List Value} → {bs : List Nat} → a.loose = true → VC m a c bs → VC m' a c bs
  | .prim _, _, _, _, k => k
  | .dead, _, _, _, k => k
  | .agg cs, _, _, h, k => VCs.loose hw cs h k
  | .tup cs, _, _, _, k => k.elim
  | .opt _ _, _, _, _, k => k.elim
  | .lst false t sz [], _, _, _, ⟨e, A, cap, e1, e2, e3, k⟩ => ⟨e, A, cap, e1, e2, e3, fun h0 => absurd h0 (by simp)⟩
  | .lst false t sz (a :: l), _, _, h, k => by simp [AV.loose] at h
  | .lst true t sz l, _, _, _, .inl k => .inl k
  | .lst true t sz l, _, _, h, .inr ⟨g, cap, arr, bs', e1, e2, e3, e4, e5, e6, e7, k⟩ => .inr ⟨g, cap, arr, bs', e1, e2, by rw [hw]; exact e3, e4, e5, e6, e7, VCs.loose hw l (by simpa [AV.loose] using h) k⟩
  | .bx t a, _, _, h, ⟨g, arr, bs', e1, e2, e3, e4, k⟩ => ⟨g, arr, bs', e1, e2, by rw [hw]; exact e3, e4, VC.loose hw a (by simpa [AV.loose] using h) k⟩
  | .sl x off len, _, _, h, k => by simp [AV.loose] at h
  | .ptr x i j, _, _, h, k => by simp [AV.loose] at h
  | .fp cs, _, _, h, k => by simp [AV.loose] at h
  | .fn f cap, _, _, h, ⟨vs, e, k⟩ => ⟨vs, e, VCs.loose hw cap (by simpa [AV.loose] using h) k⟩
  | .mp x, _, _, h, k => by simp [AV.loose] at h
theorem VCs.loose (hw : m'.w = m.w) : (as : List AV) → {c : List Value} → {bs : List Nat} → AV.looses as = true → VCs m as c bs → VCs m' as c bs
  | [], _, _, _, k => k
  | a :: as, _, _, h, ⟨c1, c2, b1, b2, e1, e2, k1, k2⟩ => ⟨c1, c2, b1, b2, e1, e2, VC.loose hw a (by simp [AV.looses] at h; exact h.1) k1, VCs.loose hw as (by simp [AV.looses] at h; exact h.2) k2⟩
end
theorem VV.looseN (hw : m'.w = m.w) {a : AV} {v : Value} {bs : List Nat} (hn : ntup a = true) (h : a.loose = true) (k : VV m a v bs) : VV m' a v bs := by
  cases a
  case agg cs => obtain ⟨cells, e, k⟩ := k; exact ⟨cells, e, VCs.loose hw cs h k⟩
  case tup cs => cases hn
  case opt c b => cases hn
  case dead => exact k
  all_goals exact VC.loose hw _ h k
theorem VTs.loose (hw : m'.w = m.w) : {as : List AV} → {vs : List Value} → {bs : List Nat} → AV.looses as = true → VTs m as vs bs → VTs m' as vs bs
  | [], _, _, _, k => k
  | a :: as, _, _, h, k => by
    have ha := VTs.ntup k
    simp only [AV.looses, Bool.and_eq_true] at h
    obtain ⟨v, vs', b1, b2, e1, e2, k1, k2⟩ := (VTs_cons ha).1 k
    exact (VTs_cons ha).2 ⟨v, vs', b1, b2, e1, e2, VV.looseN hw ha h.1 k1, VTs.loose hw h.2 k2⟩
theorem VV.loose (hw : m'.w = m.w) {a : AV} {v : Value} {bs : List Nat} (h : a.loose = true) (k : VV m a v bs) : VV m' a v bs := by
  cases a
  case tup cs => obtain ⟨vs, e, k⟩ := k; exact ⟨vs, e, VTs.loose hw h k⟩
  case opt c b => simp [AV.loose] at h
  all_goals exact VV.looseN hw rfl h k
end
/-- The memory in which all that objects own is frozen. -/
def Mem.lent (m : Mem) (Z : Zs) : Mem := ⟨m.μ, m.U, m.w, fun b => m.F b ∨ b ∈ Z.own⟩
theorem Mem.le_lent (m : Mem) (Z : Zs) : m.Le (m.lent Z) := ⟨fun _ h => h, fun _ _ _ h => h, fun b h => ⟨.inl h, rfl⟩⟩
theorem Spec.lendG {P : Program} {f : FuncId} {args args' : List AV} {S : List Slot} {Q : AV → List Slot → Prop} (h : Spec P f args [] Q) (hQ : ∀ r S', Q r S' → r.loose = true ∧ S' = [])
    (hv : ∀ (m : Mem) (Z : Zs) (Sf : List Slot), (∀ z ∈ Z, ORel m z.1.1 z.1.2 z.2) → Z.map (·.1) = S ++ Sf → ∀ us, VTs m args' us [] → VTs (m.lent Z) args us []) :
    Spec P f args' S fun r S' => Q r [] ∧ S' = S :=
  ⟨h.fn, fun Sf m N Z vals h1 h2 h3 => by
    have G1 : Good (m.lent Z) (m.lent Z) N [] [] := by
      refine ⟨(fun z hz => by cases hz), by simp [Zs.own], (fun b hb => by simp [Zs.own] at hb), fun b hb => ?_, by simp [Zs.keys], (fun x hx => by simp [Zs.keys] at hx), h2.usedN, .refl _, rfl, rfl, rfl, Nat.le_refl _⟩
      rcases hb with hb | hb
      · exact h2.frz b hb
      · exact (h2.blk b (by simpa using hb)).1
    refine (h.run [] (m.lent Z) N [] vals rfl G1 (hv m Z Sf h2.obj h1 _ h3)).mono ?_
    rintro e w' ⟨v, r, S', m2, N', Z', br, rfl, rfl, hm, G2, hr, hq⟩
    obtain ⟨hl, rfl⟩ := hQ r S' hq
    have hZ : Z' = [] := by simpa using hm
    subst hZ
    have hF : ∀ b, m.F b ∨ b ∈ Z.own → m2.F b ∧ m2.w.heap[b]? = m.w.heap[b]? := fun b hb => G2.le.F b hb
    have hbr : ∀ b ∈ br, b < m2.w.heap.size ∧ ¬ m2.F b := fun b hb => G2.blk b (by simpa [Zs.own] using hb)
    refine ⟨v, r, S, ⟨m.μ, m.U, m2.w, m.F⟩, N, Z, br, rfl, rfl, h1, ?_, VV.loose (m := m2) (m' := ⟨m.μ, m.U, m2.w, m.F⟩) rfl hl hr, hq, rfl⟩
    have hle : m.Le ⟨m.μ, m.U, m2.w, m.F⟩ := ⟨fun _ h => h, fun _ _ _ h => h, fun b hb => ⟨hb, (hF b (.inl hb)).2⟩⟩
    refine ⟨fun z hz => ?_, ?_, fun b hb => ?_, fun b hb => ?_, h2.keys, h2.keyN, h2.usedN, hle, G2.os, G2.tape, G2.output, G2.size⟩
    · refine ORel.mono hle (fun e => ?_) (fun L hL => hL) (fun b hb => (hF b (.inr (List.mem_flatMap.2 ⟨z, hz, hb⟩))).2) (h2.obj z hz)
      have := h2.obj z hz
      rw [e] at this
      exact this.2
    · rw [List.nodup_append]
      refine ⟨by simpa using h2.own, by simpa [Zs.own] using G2.own, fun a ha b hb e => ?_⟩
      subst e
      exact (hbr a hb).2 (hF a (.inr ha)).1
    · rcases List.mem_append.1 hb with hb | hb
      · have := h2.blk b (by simpa using hb)
        exact ⟨Nat.lt_of_lt_of_le this.1 G2.size, this.2⟩
      · exact ⟨(hbr b hb).1, fun hf => (hbr b hb).2 (hF b (.inl hf)).1⟩
    · exact Nat.lt_of_lt_of_le (h2.frz b hb) G2.size⟩
mutual
/-- The value a reads as b while the objects S are lent. -/
inductive Ld (S : List Slot) : AV → AV → Prop
  | frz {a : AV} : Ld S a a.frz
  | nil {t : TypeId} {sz : Nat} : Ld S (.prim (.slice none 0 0)) (.lst false t sz [])
  | agg {as bs : List AV} (h : Lds S as bs) : Ld S (.agg as) (.agg bs)
  | lst {o : Bool} {t : TypeId} {sz : Nat} {l l' : List AV} (h : Lds S l l') : Ld S (.lst o t sz l) (.lst false t sz l')
  | sl {X off n p : Nat} {t : TypeId} {sz : Nat} {l l' : List AV} (h : At S p (X, .row t sz l)) (hn : off + n ≤ l.length) (k : Lds S ((l.drop off).take n) l') : Ld S (.sl X off n) (.lst false t sz l')
  | ptr {X p : Nat} {t : TypeId} {sz : Nat} {a b : AV} {cs : List AV} (h : At S p (X, .row t sz [a])) (k : Ld S a b) (e : b.cells = cs) : Ld S (.ptr X 0 0) (.fp cs)
inductive Lds (S : List Slot) : List AV → List AV → Prop
  | nil : Lds S [] []
  | cons {a b : AV} {as bs : List AV} (h : Ld S a b) (k : Lds S as bs) : Lds S (a :: as) (b :: bs)
end
theorem Lds.len {S : List Slot} : ∀ {as bs : List AV}, Lds S as bs → bs.length = as.length
  | [], _, h => by cases h; rfl
  | a :: as, _, h => by cases h with | cons h k => simp [Lds.len k]
mutual
theorem Ld.width {S : List Slot} : ∀ {a b : AV}, Ld S a b → b.width = a.width
  | _, _, .frz => frz_width _
  | _, _, .nil => rfl
  | _, _, .agg h => Lds.widths h
  | _, _, .lst _ => rfl
  | _, _, .sl _ _ _ => rfl
  | _, _, .ptr _ _ _ => rfl
theorem Lds.widths {S : List Slot} : ∀ {as bs : List AV}, Lds S as bs → AV.widths bs = AV.widths as
  | _, _, .nil => rfl
  | _, _, .cons h k => by simp only [AV.widths, Ld.width h, Lds.widths k]
end
theorem Lds.wsz {S : List Slot} {sz : Nat} : ∀ {a b : List AV}, Lds S a b → (∀ e ∈ a, e.width = sz) → ∀ e ∈ b, e.width = sz
  | _, _, .nil, _, e, he => by cases he
  | a :: as, b :: bs, .cons h k, hw, e, he => by
    rcases List.mem_cons.1 he with rfl | he
    · rw [Ld.width h]; exact hw a (by simp)
    · exact Lds.wsz k (fun x hx => hw x (by simp [hx])) e he
section
variable {m : Mem} {S Sf : List Slot} {Z : Zs}
theorem lent_at (hO : ∀ z ∈ Z, ORel m z.1.1 z.1.2 z.2) (hm : Z.map (·.1) = S ++ Sf) {p X : Nat} {t : TypeId} {sz : Nat} {l : List AV} (h : At S p (X, .row t sz l)) : ∃ bs, ORel m X (.row t sz l) bs ∧ ∀ b ∈ bs, b ∈ Z.own := by
  have hg := h.get
  obtain ⟨hp, _⟩ := List.getElem?_eq_some_iff.1 hg
  have h2 : (Z.map (·.1))[p]? = some (X, .row t sz l) := by rw [hm, List.getElem?_append_left hp]; exact hg
  rw [List.getElem?_map] at h2
  cases hz : Z[p]? with
  | none => rw [hz] at h2; cases h2
  | some z =>
    rw [hz] at h2
    injection h2 with h2
    have hzm := List.mem_of_getElem? hz
    have := hO z hzm
    have h2 : z.1 = (X, AO.row t sz l) := h2
    rw [h2] at this
    exact ⟨z.2, this, fun b hb => List.mem_flatMap.2 ⟨z, hzm, hb⟩⟩
mutual
theorem Ld.vc (hO : ∀ z ∈ Z, ORel m z.1.1 z.1.2 z.2) (hm : Z.map (·.1) = S ++ Sf) : ∀ {a b : AV}, Ld S a b → ∀ {c : List Value} {bs : List Nat}, (∀ x ∈ bs, x ∈ Z.own) → VC m a c bs → VC (m.lent Z) b c []
  | _, _, .frz, c, bs, hb, k => VC.frz (m.le_lent Z) _ (fun b hbb => ⟨.inr (hb b hbb), rfl⟩) k
  | _, _, .nil, c, bs, hb, k => by
    obtain ⟨⟨rfl, _⟩, _⟩ := k
    exact ⟨rfl, none, 0, rfl, Nat.le_refl _, (fun e he => by cases he), fun h => absurd h (by simp)⟩
  | _, _, .agg h, c, bs, hb, k => Lds.vcs hO hm h hb k
  | _, _, .lst (o := false) (l' := l') h, c, bs, hb, ⟨e, A, cap, e1, e2, e3, k⟩ => by
    refine ⟨rfl, A, cap, by rw [h.len]; exact e1, by rw [h.len]; exact e2, h.wsz e3, fun h0 => ?_⟩
    rw [h.len] at h0 ⊢
    obtain ⟨b, off, arr, t, r, q1, q2, q3, q4⟩ := k h0
    exact ⟨b, off, arr, t, r, q1, .inl q2, q3, Lds.vcs hO hm h (by simp) q4⟩
  | _, _, .lst (o := true) h, c, bs, hb, .inl ⟨e1, e2, e3⟩ => by
    subst e2
    cases h
    exact ⟨rfl, none, 0, e1, Nat.le_refl _, (fun e he => by cases he), fun h => absurd h (by simp)⟩
  | _, _, .lst (o := true) h, c, bs, hb, .inr ⟨g, cap, arr, bs', e1, e2, e3, e4, e5, e6, e7, k⟩ => by
    refine ⟨rfl, some ⟨g, 0, none⟩, cap, by rw [h.len]; exact e1, by rw [h.len]; exact e5, h.wsz e7, fun h0 => ?_⟩
    rw [h.len]
    exact ⟨g, 0, arr, _, (0, 0), rfl, .inr (hb g (by simp [e2])), e3, Lds.vcs hO hm h (fun x hx => hb x (by rw [e2]; exact List.mem_cons_of_mem _ hx)) (by rw [List.drop_zero]; exact k)⟩
  | _, _, .sl (off := off) (n := n) (l := l) (l' := l') h hn hl, c, bs, hb, ⟨_, hU, A, q, e1, hs⟩ => by
    obtain ⟨bs2, hR, hb2⟩ := lent_at hO hm h
    obtain ⟨_, L, hL, hsz, hR⟩ := hR
    have hfl : l'.length = n := by rw [hl.len, List.length_take, List.length_drop]; omega
    refine ⟨rfl, A, q, by rw [hfl]; exact e1, ?_, ?_, fun h0 => ?_⟩
    · rcases hs L hL with ⟨_, h2, _, h3⟩ | ⟨_, h2, o, h3, _⟩
      · omega
      · injection h3 with h4 h5 h6
        omega
    · refine hl.wsz fun e he => ?_
      rcases hR with ⟨_, rfl, _⟩ | ⟨_, arr, bs', _, _, _, _, _, hw, _⟩
      · simp at he
      · exact hw e (List.mem_of_mem_drop (List.mem_of_mem_take he))
    · rw [hfl] at h0 ⊢
      rcases hs L hL with ⟨_, _, _, h3⟩ | ⟨h1, h2, o, h3, h4⟩
      · omega
      · rcases hR with ⟨_, rfl, _⟩ | ⟨_, arr, bs', rfl, h6, h7, h8, h9, h10, h11⟩
        · simp at hn; omega
        · injection h3 with h12 h13 h14
          have ho := h4 (.inl (by omega))
          obtain ⟨p1, p2, e1, _, k1⟩ := VCs.take h10 h11 (k := off) (by omega)
          obtain ⟨p3, p4, e2, k2, _⟩ := VCs.take (l := l.drop off) (fun e he => h10 e (List.mem_of_mem_drop he)) k1 (k := n) (by rw [List.length_drop]; omega)
          refine ⟨L.blk, o, arr, _, (0, 0), h12, .inr (hb2 _ (by simp)), h6, ?_⟩
          have hc : (arr.toList.drop o).take (n * L.sz) = ((arr.toList.take (l.length * L.sz)).drop (off * L.sz)).take (n * L.sz) := by
            rw [ho, List.drop_take, List.take_take, Nat.min_eq_left]
            rw [← Nat.sub_mul]
            exact Nat.mul_le_mul_right _ (by omega)
          subst hsz
          rw [hc]
          exact Lds.vcs hO hm hl (fun x hx => hb2 x (by simp [e1, e2, hx])) k2
  | _, _, .ptr (a := a) (b := b) h hl e, c, bs, hb, ⟨_, hU, A, e1, hA⟩ => by
    subst e
    obtain ⟨bs2, hR, hb2⟩ := lent_at hO hm h
    obtain ⟨_, L, hL, hsz, hR⟩ := hR
    have hA := hA L hL
    subst hA
    rcases hR with ⟨_, h5, _⟩ | ⟨_, arr, bs', rfl, h6, h7, h8, h9, h10, h11⟩
    · cases h5
    · have hw := h10 a (by simp)
      have hv : VC m a (arr.toList.take a.width) bs' := by rw [hw]; simpa using VCs.one.1 h11
      have hf := VC.cells (Ld.vc hO hm hl (fun x hx => hb2 x (by simp [hx])) hv)
      refine ⟨rfl, L.blk, 0 * L.sz + 0, arr, _, (0, 0), e1, .inr (hb2 _ (by simp)), h6, ?_⟩
      have hl2 : AV.widths b.cells = a.width := by
        rw [← VCs.len _ hf, List.length_take, Nat.min_eq_left]
        have := VC.len _ hv
        rw [List.length_take] at this
        omega
      rw [hl2]
      simpa using hf
theorem Lds.vcs (hO : ∀ z ∈ Z, ORel m z.1.1 z.1.2 z.2) (hm : Z.map (·.1) = S ++ Sf) : ∀ {as bs : List AV}, Lds S as bs → ∀ {c : List Value} {bl : List Nat}, (∀ x ∈ bl, x ∈ Z.own) → VCs m as c bl → VCs (m.lent Z) bs c []
  | _, _, .nil, c, bl, hb, ⟨e, _⟩ => ⟨e, rfl⟩
  | _, _, .cons h k, c, bl, hb, ⟨c1, c2, b1, b2, e1, e2, k1, k2⟩ => ⟨c1, c2, [], [], e1, rfl, Ld.vc hO hm h (fun x hx => hb x (by simp [e2, hx])) k1, Lds.vcs hO hm k (fun x hx => hb x (by simp [e2, hx])) k2⟩
end
end
theorem Ld.tup {S : List Slot} {a b : AV} (h : Ld S a b) (ha : ntup a = true) : ntup b = true := by
  cases h with
  | frz => cases a <;> first | rfl | cases ha
  | _ => rfl
section
variable {m : Mem} {S Sf : List Slot} {Z : Zs}
theorem Ld.vv (hO : ∀ z ∈ Z, ORel m z.1.1 z.1.2 z.2) (hm : Z.map (·.1) = S ++ Sf) {a b : AV} (h : Ld S a b) {u : Value} (k : VV m a u []) : VV (m.lent Z) b u [] := by
  cases h with
  | frz => exact VV.frz (m.le_lent Z) (by simp) k
  | @nil t sz => exact Ld.vc hO hm (Ld.nil (S := S) (t := t) (sz := sz)) (bs := []) (by simp) k
  | agg h => obtain ⟨cells, e, k⟩ := k; exact ⟨cells, e, Lds.vcs hO hm h (by simp) k⟩
  | lst h => exact Ld.vc hO hm (.lst h) (by simp) k
  | sl h hn hl => exact Ld.vc hO hm (.sl h hn hl) (by simp) k
  | ptr h hl e => exact Ld.vc hO hm (.ptr h hl e) (by simp) k
theorem Lds.vts (hO : ∀ z ∈ Z, ORel m z.1.1 z.1.2 z.2) (hm : Z.map (·.1) = S ++ Sf) : ∀ {as bs : List AV}, Lds S as bs → ∀ {us : List Value}, VTs m as us [] → VTs (m.lent Z) bs us []
  | _, _, .nil, us, k => k
  | _, _, .cons h hk, us, k => by
    have ha := VTs.ntup k
    obtain ⟨v, vs', b1, b2, e1, e2, k1, k2⟩ := (VTs_cons ha).1 k
    obtain ⟨rfl, rfl⟩ : b1 = [] ∧ b2 = [] := by simpa using e2.symm
    exact (VTs_cons (h.tup ha)).2 ⟨v, vs', [], [], e1, rfl, h.vv hO hm k1, Lds.vts hO hm hk k2⟩
end
theorem Spec.lend {P : Program} {f : FuncId} {args args' : List AV} {S : List Slot} {Q : AV → List Slot → Prop} (h : Spec P f args [] Q) (hQ : ∀ r S', Q r S' → r.loose = true ∧ S' = []) (k : Lds S args' args) : Spec P f args' S fun r S' => Q r [] ∧ S' = S :=
  h.lendG hQ fun m Z Sf hO hm us hu => k.vts hO hm hu
theorem PS.lend {P : Program} {f : FuncId} {args args' : List AV} {S : List Slot} {r : AV} (h : PS P f args r) (hr : r.loose = true) (k : Lds S args' args) : Spec P f args' S fun r' S' => r' = r ∧ S' = S :=
  (Spec.lend h (fun r' S' ⟨e1, e2⟩ => ⟨e1 ▸ hr, e2⟩) k).mono fun r' S' ⟨⟨e1, _⟩, e2⟩ => ⟨e1, e2⟩
section
variable {P : Program} {ro : Option Nat} {nt : Nat} {ops : Array Oper} {Q : Exit → St → Prop} {rest : List Oper} {T : List (Nat × AV)} {S : List Slot} {ty : TypeId} {pos : String} {after : Array Edge} {dst : Option Tmp} {ats : Array TypeId} {f : FuncId} {xs : List (Operand × AV)} {args : List AV}
end
section
variable {P : Program} {ro : Option Nat} {nt : Nat} {ops : Array Oper} {Q : Exit → St → Prop} {rest : List Oper} {T : List (Nat × AV)} {S : List Slot} {ty : TypeId} {pos : String} {after : Array Edge} {dst : Option Tmp} {ats : Array TypeId} {f : FuncId} {r v : AV} {nw : List Slot}
end
/- What a list of objects reads as. -/
theorem Lds.frzs {S : List Slot} : ∀ l : List AV, Lds S l (AV.frzs l)
  | [] => .nil
  | a :: l => .cons .frz (Lds.frzs l)
theorem Ld.fz {S : List Slot} {a b : AV} [h : Frz a b] : Ld S a b := h.h ▸ .frz
theorem Lds.fz {S : List Slot} {a b : List AV} [h : Frzs a b] : Lds S a b := h.h ▸ .frzs a
theorem Ld.rowL {S : List Slot} {X n p : Nat} {t : TypeId} {sz : Nat} {l l' : List AV} (hf : Lds S l l') (h : At S p (X, .row t sz l) := by exact At.f) (hn : n = l.length := by rfl) : Ld S (.sl X 0 n) (.lst false t sz l') :=
  .sl h (by omega) (by rw [List.drop_zero, hn, List.take_length]; exact hf)
end Go.Proofs.YtkoehhpfjpdkcaaGreat

namespace Go.Proofs.YtkoehhpfjpdkcaaGreat
set_option linter.unusedVariables false
section
variable {P : Program} {dst : Option Tmp} {ty t ty2 : TypeId} {pos : String} {after : Array Edge} {g : Option (Nat × Bool)} {T : List (Nat × AV)} {S : List Slot} {c : Option (List Bool)} {x y : Operand} {a b : UInt64}
theorem W.remU (hb : b.toNat ≠ 0) (hx : Rd c T x (uA a)) (hy : Rd c T y (uA b)) : Stp c P ⟨dst, .binOp .rem t x y ty2, ty, pos, after, g⟩ T S [(x, uA a), (y, uA b)] [] (uA (a % b)) [] := by
  have h : ((a.toNat : Int)).tmod (b.toNat : Int) = (((a % b).toNat : Nat) : Int) := by rw [UInt64.toNat_mod]; exact (Int.ofNat_tmod ..).symm
  exact ⟨.res (OpT.rem (by omega)) h, .cons hx (.cons hy .nil), .nil⟩
theorem W.quoU (hb : b.toNat ≠ 0) (hx : Rd c T x (uA a)) (hy : Rd c T y (uA b)) : Stp c P ⟨dst, .binOp .quo t x y ty2, ty, pos, after, g⟩ T S [(x, uA a), (y, uA b)] [] (uA (a / b)) [] := by
  have h : IntKind.u64.wrap (((a.toNat : Int)).tdiv (b.toNat : Int)) = (((a / b).toNat : Nat) : Int) := by
    rw [UInt64.toNat_div, ← Int.ofNat_tdiv, wrapU]
    have := Nat.div_le_self a.toNat b.toNat
    have := a.toNat_lt
    generalize a.toNat / b.toNat = q at *
    omega
  exact ⟨.res (OpT.quo (by omega)) h, .cons hx (.cons hy .nil), .nil⟩
theorem W.negE {i : Int} (k : Int) (h : -i = k) (hr : -9223372036854775808 ≤ k ∧ k ≤ 9223372036854775807) (hx : Rd c T x (.prim (.int .i64 i))) : Stp c P ⟨dst, .unOp .neg t x, ty, pos, after, g⟩ T S [(x, .prim (.int .i64 i))] [] (.prim (.int .i64 k)) [] := by
  have e : IntKind.i64.wrap (-i) = k := by rw [h]; exact wrap_id hr.1 hr.2
  exact e ▸ W.negW hx
end
section
variable {P : Program} {ro : Option Nat} {nt : Nat} {ops : Array Oper} {Q : Exit → St → Prop} {rest : List Oper} {T : List (Nat × AV)} {S : List Slot} {op : Op} {ty : TypeId} {pos : String} {after : Array Edge} {dst : Option Tmp}
theorem put_noA {nt : Nat} {m0 : Mem} {a : Act} {w : World} (hd : ∀ d, dst = some d → d < nt) (h : Rel nt m0 ⟨T, S⟩ a w) : Rel nt m0 ⟨putD T dst noA, S⟩ (a.put dst undef) w := by
  obtain ⟨m, N, Z, h1, h2, h3, h4⟩ := h
  exact ⟨m, N, Z, h1, h2, h3, h4.put hd ⟨rfl, (fun h => by cases h), fun _ => rfl⟩⟩
/-- An operation that is left out; one whose guard was left out itself. -/
theorem AOps.goNU {g : Nat} {b b' : Bool} {t : Nat} (k : AOps ro P nt ops Q rest ⟨putD T dst noA, S⟩) (ht : (ops[g]?).bind (·.dst) = some t := by rfl) (hv : look T t = some (.prim (.bool b')) := by rfl) (hb : b' = !b := by first | rfl | assumption | (simp only [Bool.not_true, Bool.not_false]; assumption)) (hd : dstOk dst nt = true := by rfl) : AOps ro P nt ops Q (⟨dst, op, ty, pos, after, some (g, b)⟩ :: rest) ⟨T, S⟩ := by
  intro m0 a w hr
  refine wpListIn_step fun K hK => ?_
  have hy : yielded ops a.tmps g = some !b := by
    obtain ⟨m, N, Z, h1, h2, h3, h4, h5, h6⟩ := hr
    obtain ⟨u, hu1, hu2⟩ := h6 t _ hv
    obtain ⟨⟨e, _⟩, _⟩ := hu2
    injection e with e
    subst e hb
    simp [yielded, ht, hu1]
  rw [if_neg (by simp [Region.wanted, hy])]
  exact ⟨fun _ _ => trivial, hK _ _ (k m0 _ w (put_noA (dstOk_lt hd) hr))⟩
theorem AOps.goNV {g : Nat} {b : Bool} {t : Nat} (k : AOps ro P nt ops Q rest ⟨putD T dst noA, S⟩) (ht : (ops[g]?).bind (·.dst) = some t := by rfl) (hv : look T t = some noA := by rfl) (hd : dstOk dst nt = true := by rfl) : AOps ro P nt ops Q (⟨dst, op, ty, pos, after, some (g, b)⟩ :: rest) ⟨T, S⟩ := by
  intro m0 a w hr
  refine wpListIn_step fun K hK => ?_
  have hy : yielded ops a.tmps g = none := by
    obtain ⟨m, N, Z, h1, h2, h3, h4, h5, h6⟩ := hr
    obtain ⟨u, hu1, _, _, hu2⟩ := h6 t _ hv
    have hu2 := hu2 rfl
    subst hu2
    simp [yielded, ht, hu1, undef]
  rw [if_neg (by simp [Region.wanted, hy])]
  exact ⟨fun _ _ => trivial, hK _ _ (k m0 _ w (put_noA (dstOk_lt hd) hr))⟩
end
/-- An odd number has an inverse modulo a power of two. -/
theorem odd_inv (g : Nat) (hg : g % 2 = 1) : ∀ n : Nat, ∃ x t : Nat, g * x = 1 + 2 ^ n * t
  | 0 => ⟨1, g - 1, by simp; omega⟩
  | n + 1 => by
    obtain ⟨x, t, h⟩ := odd_inv g hg n
    rcases Nat.mod_two_eq_zero_or_one t with e | e
    · refine ⟨x, t / 2, ?_⟩
      rw [h, Nat.pow_succ, Nat.mul_assoc, show 2 * (t / 2) = t by omega]
    · refine ⟨x + 2 ^ n, (t + g) / 2, ?_⟩
      rw [Nat.mul_add, h, Nat.pow_succ, Nat.mul_assoc, show 2 * ((t + g) / 2) = t + g by omega, Nat.mul_add, Nat.mul_comm g (2 ^ n)]
      omega
/-- Steps of an odd size come to zero. -/
theorem odd_zero (s g : UInt64) (hg : g.toNat % 2 = 1) : ∃ k : Nat, 1 ≤ k ∧ k ≤ 18446744073709551616 ∧ (s.toNat + k * g.toNat) % 18446744073709551616 = 0 := by
  obtain ⟨x, t, h⟩ := odd_inv g.toNat hg 64
  have hs := s.toNat_lt
  have e : (18446744073709551616 - s.toNat) * x * g.toNat = (18446744073709551616 - s.toNat) + 18446744073709551616 * ((18446744073709551616 - s.toNat) * t) := by
    rw [Nat.mul_assoc, Nat.mul_comm x, h, Nat.mul_add, Nat.mul_one, show (2 : Nat) ^ 64 = 18446744073709551616 from rfl, Nat.mul_left_comm]
  obtain ⟨q, hq⟩ : ∃ q, (18446744073709551616 - s.toNat) * x = q := ⟨_, rfl⟩
  rw [hq] at e
  have h0 : (s.toNat + q * g.toNat) % 18446744073709551616 = 0 := by
    rw [e]
    generalize (18446744073709551616 - s.toNat) * t = u
    omega
  obtain ⟨r, hr⟩ : ∃ r, q % 18446744073709551616 = r := ⟨_, rfl⟩
  have hqd : q = 18446744073709551616 * (q / 18446744073709551616) + r := by rw [← hr]; exact (Nat.div_add_mod q _).symm
  have hrg : (s.toNat + r * g.toNat) % 18446744073709551616 = 0 := by
    rw [hqd, Nat.add_mul, Nat.mul_assoc] at h0
    generalize q / 18446744073709551616 * g.toNat = u at h0
    generalize r * g.toNat = v at h0 ⊢
    omega
  by_cases hr0 : r = 0
  · refine ⟨18446744073709551616, by omega, Nat.le_refl _, ?_⟩
    subst hr0
    rw [Nat.zero_mul] at hrg
    generalize g.toNat = v at hrg ⊢
    omega
  · exact ⟨r, by omega, by omega, hrg⟩
end Go.Proofs.YtkoehhpfjpdkcaaGreat

namespace Go.Proofs.YtkoehhpfjpdkcaaGreat
set_option linter.unusedVariables false
set_option linter.unusedSimpArgs false
variable {ro : Option Nat}
open Go.RowKit
/-- What is yielded: for a new stamp the values, and the objects that go with them. -/
abbrev YO := Nat → List AV × List Slot
/-- As Yld, with objects handed over. -/
def YldO (P : Program) (y : Value) (xs : List YO) (J : Nat → List Slot → Prop) (Jx : List Slot → Prop) : Prop :=
  ∃ l, y = .func (.yield l) #[] #[] ∧ ∀ i vs, xs[i]? = some vs → ∀ C Sl, J i Sl → ∀ (Si : List Slot) (m : Mem) (N : Nat) (Z : Zs) (us : List Value), Z.map (·.1) = Si ++ ((vs C).2 ++ Sl) → Good m m N Z [] → VTs m (vs C).1 us [] →
    ∃ f tmps assign body, (Instr.yield l us.toArray).run P m.w = .ok (.round l f tmps assign body) m.w ∧ RoundIn (FW none) 0 P l f tmps assign body m.w fun e w' =>
      ∃ b Sl' m' N' Z', e = .returned (.bool b) ∧ m'.w = w' ∧ Z'.map (·.1) = Si ++ Sl' ∧ Good m m' N' Z' [] ∧ (b = true → J (i + 1) Sl') ∧ (b = false → Jx Sl')
def ItrO (P : Program) (f : FuncId) (cap : List AV) (xs : List YO) : Prop :=
  isFn P f = true ∧ ∀ y J Jx, YldO P y xs J Jx → ∀ Sl, J 0 Sl → Spec P f (.prim y :: cap) Sl fun _ S' => J xs.length S' ∨ Jx S'
section
variable {P : Program} {nt : Nat} {ops : Array Oper} {Q : Exit → St → Prop} {rest : List Oper} {T : List (Nat × AV)} {S Si Sl Sf : List Slot} {y : Value} {xs : List YO} {J : Nat → List Slot → Prop} {Jx : List Slot → Prop}
variable {dst : Option Tmp} {ty : TypeId} {pos : String} {after : Array Edge} {x : Operand} {ys : List (Operand × AV)} {ats : Array TypeId} {i : Nat}
/-- A call of yield in an iterator's walk. -/
theorem AOps.yieldO {C : Nat} {x0 : YO} {ob : List Slot} (hY : YldO P y xs J Jx) (hJ : J i Sl) (hi : xs[i]? = some x0) (hx1 : (x0 C).1 = ys.map (·.2)) (hx2 : (x0 C).2 = ob) (hx : ev T x = some (.prim y)) (has : Evs T ys) (ht : noTup ys = true) (hd : dstOk dst nt = true)
    (kt : ∀ Sl', J (i + 1) Sl' → AOps ro P nt ops Q rest ⟨putD T dst (.prim (.bool true)), Si ++ (Sl' ++ Sf)⟩) (kf : ∀ Sl', Jx Sl' → AOps ro P nt ops Q rest ⟨putD T dst (.prim (.bool false)), Si ++ (Sl' ++ Sf)⟩) :
    AOps ro P nt ops Q (⟨dst, .call ⟨.value x, (ys.map (·.1)).toArray, ats⟩, ty, pos, after, none⟩ :: rest) ⟨T, Si ++ ((ob ++ Sl) ++ Sf)⟩ := by
  rintro m0 a w ⟨m, N, Z, rfl, h2, h3, h4⟩
  refine wpListIn_plain rfl fun K hK => ?_
  obtain ⟨l, rfl, hY⟩ := hY
  have hyv := (h4.ev hx).prim
  obtain ⟨Zi, Zr, rfl, hzi, hzr⟩ := slots_split (A := Si) (B := (ob ++ Sl) ++ Sf) h2
  obtain ⟨Zl, Zf, rfl, hzl, hzf⟩ := slots_split hzr
  have hp : (Zi ++ (Zl ++ Zf)).Perm ((Zi ++ Zf) ++ Zl) := by
    rw [List.append_assoc]
    exact List.Perm.append_left _ List.perm_append_comm
  have hus : VTs m (ys.map (·.2)) (ys.map fun q => a.eval q.1) [] := vts_of (noTup_spec ht) fun q hq => h4.ev (has.all q hq)
  obtain ⟨f, tmps, assign, body, hrun, hR⟩ := hY i _ hi C Sl hJ (Si ++ Sf) m N _ _ (by simp [hzi, hzf, hzl, hx2]) (h3.perm hp).self (by rw [hx1]; exact hus)
  refine ⟨fun _ _ => trivial, ?_⟩
  have hexec : (Oper.semAt (FW ro).round a.eval ⟨dst, .call ⟨.value x, (ys.map (·.1)).toArray, ats⟩, ty, pos, after, none⟩).run P m.w = .ok (.round l f tmps assign body) m.w := by
    rw [Oper.semAt_eq _ _ _ (by simp)]
    simp only [execOp, resolve, hyv, Deferred.ofValue, invoke, Sem.run_bind, Sem.run_pure, Result.andThen_ok]
    rw [show (#[] : Array Value) ++ Array.map a.eval (ys.map (·.1)).toArray = (ys.map fun q => a.eval q.1).toArray from by simp [Function.comp_def]]
    exact hrun
  rw [hexec]
  refine ⟨fun h => (by simp [FW, Fence.wide] at h), RoundIn.mono (F := FW ro) (n := 0 - 1) hR fun e w' he => ?_⟩
  obtain ⟨b, Sl', m', N', Z', rfl, rfl, hm, G', kT, kF⟩ := he
  obtain ⟨Za, Zl', rfl, hza, hzl'⟩ := slots_split hm
  obtain ⟨Zi', Zf', rfl, hzi', hzf'⟩ := slots_split hza
  have hp' : ((Zi' ++ Zf') ++ Zl').Perm (Zi' ++ (Zl' ++ Zf')) := by
    rw [List.append_assoc]
    exact List.Perm.append_left _ List.perm_append_comm
  refine hK _ _ ?_
  have hrel : Rel nt m0 ⟨putD T dst (.prim (.bool b)), Si ++ (Sl' ++ Sf)⟩ (a.put dst (.bool b)) m'.w :=
    ⟨m', N', _, rfl, by simp [hzi', hzf', hzl'], (h3.after G').perm hp', (h4.mono G'.le).put (dstOk_lt hd) (vv_prim _)⟩
  cases b with
  | true => exact kt Sl' (kT rfl) m0 _ _ hrel
  | false => exact kf Sl' (kF rfl) m0 _ _ hrel
/-- A loop over an iterator. -/
theorem AWP.rangeO {β : Type} {g : Operand} {ps : Array Tmp} {assign body : Code} {Q : Exit → St → Prop} {T : List (Nat × AV)} {S Sf : List Slot} {gf : FuncId} {cap : List AV} {xs : List YO} (hI : ItrO P gf cap xs) (inv : β → List Slot) (R : Nat → β → Prop) (b0 : β) (hR : R 0 b0)
    (hround : ∀ (i : Nat) vs C b l F1 F2, xs[i]? = some vs → R i b → AWP (some l) P nt assign (asgQ F1 F2 fun st => AWP (some l) P nt body (rndQ P nt Q T Sf (fun pre => ∃ b', R (i + 1) b' ∧ pre = inv b') F2) st) ⟨zipT T ps.toList (vs C).1, (vs C).2 ++ (inv b ++ F1)⟩)
    (hdone : ∀ b, R xs.length b → Q .normal ⟨T, inv b ++ Sf⟩)
    (hg : ev T g = some (.fn gf cap)) (hs : st1s cap = true) (hps : ps.toList.all (Nat.blt · nt) = true) (hlen : ∀ vs ∈ xs, ∀ C, (vs C).1.length = ps.size) (hS : (inv b0 ++ Sf).Sublist S) : AWP none P nt (.rangeFunc g ps assign body) Q ⟨T, S⟩ := by
  intro m0 a w hr
  obtain ⟨m, N, Z, rfl, h2, h3, h4⟩ := hr.sub hS
  obtain ⟨cs, e1, hcap⟩ := h4.ev hg
  injection e1 with e1
  refine wpIn_rangeFunc ?_
  intro fn _
  obtain ⟨rec, hrec⟩ : ∃ rec : LoopState → Option Code → Loop, rec = fun st pe => { state := st, pending := pe, fn, tmps := a.tmps, params := ps, assign, body, defers := m.w.heap.size } := ⟨_, rfl⟩
  -- the block for the deferred calls, the record, and a note of what the temporaries hold
  obtain ⟨G1, hle1⟩ := h3.newFrz (.deferred (some [])) _ rfl
  obtain ⟨G2, hle2⟩ := G1.newRaw (.loop (rec .ready none)) _ rfl
  have hle12 := hle1.trans hle2
  obtain ⟨m2, hm2⟩ : ∃ m2 : Mem, (⟨m.μ, fun y => m.U y ∨ y = N, (m.w.alloc (.deferred (some []))).alloc (.loop (rec .ready none)), fun b => m.F b ∨ b = m.w.heap.size⟩ : Mem) = m2 := ⟨_, rfl⟩
  have hw2 : (m.w.alloc (.deferred (some []))).alloc (.loop (rec .ready none)) = m2.w := by rw [← hm2]
  have G2' : Good m0 m2 (N + 1) (((N, .raw (m.w.heap.size + 1) (.loop (rec .ready none))), [m.w.heap.size + 1]) :: Z) [] := by
    rw [← hm2]
    have := G2
    simp only [World.size_alloc] at this
    exact this
  have hle : m.Le m2 := by rw [← hm2]; exact hle12
  have hV2 : ∀ d v, look T d = some v → ∃ u, a.tmps[d]? = some u ∧ VV m2 v u [] := (h4.mono hle).2.2
  obtain ⟨K, hK⟩ : ∃ K : AV → Value → Prop, K = fun v u => ∃ d, look T d = some v ∧ a.tmps[d]? = some u := ⟨_, rfl⟩
  obtain ⟨G3, hle3⟩ := G2'.note K (fun v u h => by
    rw [hK] at h
    obtain ⟨d, h5, h6⟩ := h
    obtain ⟨u', h7, h8⟩ := hV2 d v h5
    rw [h6] at h7
    injection h7 with h7
    rw [h7]; exact h8) _ rfl
  obtain ⟨m3, hm3⟩ : ∃ m3 : Mem, { m2 with U := fun y => m2.U y ∨ y = N + 1 } = m3 := ⟨_, rfl⟩
  rw [hm3] at G3 hle3
  have hw3 : m3.w = m2.w := by rw [← hm3]
  have h0F : m3.F m.w.heap.size := by rw [← hm3, ← hm2]; exact .inr rfl
  have h0D : m3.w.heap[m.w.heap.size]? = some (.deferred (some [])) := by
    rw [hw3, ← hw2]; exact (Below.heap_alloc _ _ _ (by simp)).trans (World.alloc_heap_new m.w _)
  have hle03 : m.Le m3 := hle.trans hle3
  obtain ⟨l, hl⟩ : ∃ l, m.w.heap.size + 1 = l := ⟨_, rfl⟩
  rw [hl] at G3
  clear G1 G2 G2' hle1 hle2 hle12
  -- the frame at the start
  obtain ⟨Zi, Zf, rfl, hzi, hzf⟩ := slots_split (A := inv b0) (B := Sf) h2
  have hsl : ∀ (A B C D : List (Slot × List Nat)), (A ++ (B ++ (C ++ D))).Perm (C ++ (B ++ (A ++ D))) := fun A B C D => by
    have p1 : (A ++ (B ++ (C ++ D))).Perm ((C ++ (B ++ A)) ++ D) := by
      rw [← List.append_assoc, ← List.append_assoc]
      refine List.Perm.append_right _ ?_
      refine List.perm_append_comm.trans (List.Perm.append_left _ List.perm_append_comm)
    simpa [List.append_assoc] using p1
  let J : Nat → List Slot → Prop := fun i Sl => ∃ b, R i b ∧ Sl = inv b ++ (N, .raw l (.loop (rec .ready none))) :: (N + 1, .tv K) :: Sf
  let Jx : List Slot → Prop := fun Sl => ∃ c pre, Sl = pre ++ (N, .raw l (.loop (rec .done (some c)))) :: (N + 1, .tv K) :: Sf ∧ AWP none P nt c Q ⟨T, pre ++ Sf⟩
  have hY : YldO P (.func (.yield l) #[] #[]) xs J Jx := by
    refine ⟨l, rfl, ?_⟩
    rintro i vs hi C Sl ⟨b, hRb, rfl⟩ Si mr Nr Zr us hZr Gr hus
    have hRel0 : Rel nt mr ⟨zipT T ps.toList (vs C).1, ((vs C).2 ++ inv b) ++ (N, .raw l (.loop (rec .ready none))) :: ((N + 1, .tv K) :: Sf ++ Si)⟩ { tmps := (ps.toList.zip us).foldl (fun t q => t.setIfInBounds q.1 q.2) a.tmps, defers := [] } mr.w := by
      obtain ⟨Za, Zb, rfl, hza, hzb⟩ := slots_split (A := Si) hZr
      have hp : (Za ++ Zb).Perm (Zb ++ Za) := List.perm_append_comm
      refine ⟨mr, Nr, Zb ++ Za, rfl, by simp [hza, hzb], Gr.perm hp, TRel.zip ⟨h4.1, DRel.nil rfl, fun d v hd => ?_⟩ hus fun d hd => ?_⟩
      · have hO : ∃ bs, ((N + 1, AO.tv K), bs) ∈ Zb := by
          have : (N + 1, AO.tv K) ∈ Zb.map (·.1) := by rw [hzb]; simp
          obtain ⟨⟨q, bs⟩, hq, rfl⟩ := List.mem_map.1 this
          exact ⟨bs, hq⟩
        obtain ⟨bs, hO⟩ := hO
        have := Gr.obj _ (List.mem_append_right _ hO)
        obtain ⟨_, _, hk⟩ := this
        obtain ⟨u, h5, _⟩ := h4.2.2 d v hd
        exact ⟨u, h5, hk v u (by rw [hK]; exact ⟨d, hd, h5⟩)⟩
      · have := List.all_eq_true.1 hps d hd
        simpa [Nat.blt_eq] using this
    have hheap := (hRel0.setRaw (o' := .deferred none)).1
    have hus2 : us.length = ps.size := by
      rw [(VTs.get hus).1]
      exact hlen vs (List.mem_of_getElem? hi) C
    refine ⟨fn, (ps.toList.zip us).foldl (fun t q => t.setIfInBounds q.1 q.2) a.tmps, assign, body, ?_, ?_⟩
    · have := run_yield (P := P) (args := us.toArray) hheap (by rw [hrec]; simpa using hus2)
      rw [this, hrec]
      simp only
      congr 2
      rw [← Array.foldl_toList]
      simp [Array.toList_zip]
    · have hA := hround i vs C b l _ ((N, .raw l (.loop (rec .busy none))) :: ((N + 1, .tv K) :: Sf ++ Si)) hi hRb mr _ _ (by rw [List.append_assoc] at hRel0; exact hRel0)
      refine roundIn_of_wpIn (F := FW none) trivial (wpIn_mono (F := FW (some l)) hA fun e a' w' ⟨st', hr', hq⟩ => ?_)
      cases e with
      | normal =>
        obtain ⟨pre, hsub, hk⟩ := hq
        obtain ⟨hb1, hr2⟩ := (hr'.sub (T := st'.T) hsub).setRaw (o' := .loop (rec .busy none))
        refine ⟨_, run_beginRound hb1 (by rw [hrec]), ?_⟩
        have hr3 : Rel nt mr ⟨st'.T, pre ++ (N, .raw l (.loop (rec .busy none))) :: ((N + 1, .tv K) :: Sf ++ Si)⟩ a' (w'.putObj l (.loop { rec .ready none with state := .busy })) := by
          have : ({ rec .ready none with state := .busy } : Loop) = rec .busy none := by rw [hrec]
          rw [this]; exact hr2
        refine wpIn_mono (F := FW (some l)) (hk mr _ _ hr3) fun e a2 w2 ⟨st2, hr4, hq2⟩ => ?_
        have fin : ∀ (pre2 : List Slot) (jump : Option Code) (st : LoopState), st = (if jump.isNone then LoopState.ready else .done) → (pre2 ++ (N, .raw l (.loop (rec .busy none))) :: ((N + 1, .tv K) :: Sf ++ Si)).Sublist st2.S →
            ((jump.isNone = true → J (i + 1) (pre2 ++ (N, .raw l (.loop (rec st jump))) :: (N + 1, .tv K) :: Sf)) ∧ (jump.isNone = false → Jx (pre2 ++ (N, .raw l (.loop (rec st jump))) :: (N + 1, .tv K) :: Sf))) →
            ∃ v w', (Instr.endRound l jump).run P w2 = .ok v w' ∧ ∃ b Sl' m' N' Z', Ending.returned v = .returned (.bool b) ∧ m'.w = w' ∧ Z'.map (·.1) = Si ++ Sl' ∧ Good mr m' N' Z' [] ∧ (b = true → J (i + 1) Sl') ∧ (b = false → Jx Sl') := by
          intro pre2 jump st hst hsub2 hj
          obtain ⟨hb3, hr5⟩ := (hr4.sub (T := st2.T) hsub2).setRaw (o' := .loop (rec st jump))
          refine ⟨_, _, run_endRound jump hb3, jump.isNone, pre2 ++ (N, .raw l (.loop (rec st jump))) :: (N + 1, .tv K) :: Sf, ?_⟩
          have hrq : ({ rec .busy none with state := if jump.isNone then .ready else .done, pending := jump } : Loop) = rec st jump := by rw [hrec, hst]
          rw [hrq]
          obtain ⟨m', N', Z', h5, h6, h7, h8⟩ := hr5
          have h6' : Z'.map (·.1) = (pre2 ++ (N, .raw l (.loop (rec st jump))) :: (N + 1, .tv K) :: Sf) ++ Si := by simpa using h6
          obtain ⟨Zc, Zd, rfl, hzc, hzd⟩ := slots_split h6'
          exact ⟨m', N', Zd ++ Zc, rfl, h5, by simp only [List.map_append, hzc, hzd], h7.perm List.perm_append_comm, hj.1, hj.2⟩
        cases e with
        | normal =>
          obtain ⟨pre2, hsub2, b', hRb', rfl⟩ := hq2
          exact fin (inv b') none .ready rfl hsub2 ⟨fun _ => ⟨b', hRb', rfl⟩, fun h => by cases h⟩
        | ret =>
          obtain ⟨pre2, hsub2, hx⟩ := hq2
          exact fin pre2 (some .ret) .done rfl hsub2 ⟨fun h => (by cases h), fun _ => ⟨_, pre2, rfl, hx⟩⟩
        | exit id =>
          obtain ⟨pre2, hsub2, hx⟩ := hq2
          exact fin pre2 (some (.exit id)) .done rfl hsub2 ⟨fun h => (by cases h), fun _ => ⟨_, pre2, rfl, hx⟩⟩
        | goto t => exact hq2.elim
        | panic ch => exact hq2.elim
        | outgrown => exact hq2.elim
      | _ => exact hq.elim
  have hSp := hI.2 _ J Jx hY (inv b0 ++ (N, .raw l (.loop (rec .ready none))) :: (N + 1, .tv K) :: Sf) ⟨b0, hR, rfl⟩
  have hcall := hSp.run [] m3 (N + 1 + 1) (Zi ++ ((N, .raw l (.loop (rec .ready none))), [l]) :: ((N + 1, .tv K), []) :: Zf) (#[.func (.yield l) #[] #[]] ++ cs) (by simp [hzi, hzf])
    (by
      refine (G3.perm ?_).self
      have := hsl [((N + 1, .tv K), [])] [((N, .raw l (.loop (rec .ready none))), [l])] Zi Zf
      simpa using this) (by
      have h5 := vts_cap hs (VCs.mono hle03 cap (by simp) hcap)
      have := (VTs_cons (m := m3) (a := .prim (.func (.yield l) #[] #[])) (as := cap) (vs := .func (.yield l) #[] #[] :: cs.toList) (bs := []) rfl).2 ⟨_, _, [], [], rfl, rfl, ⟨⟨rfl, rfl⟩, rfl⟩, h5⟩
      simpa using this)
  refine ⟨l, [markD m.w.heap.size], m3.w, { target := .fn (.func gf) cs, args := #[.func (.yield l) #[] #[]] }, m3.w, gf, #[.func (.yield l) #[] #[]] ++ cs, m3.w, ?_, ?_, ?_, ?_, ?_, ?_⟩
  · rw [hw3, ← hw2, hrec, ← hl]
    exact run_enterLoop_outer fn a.tmps ps assign body
  · simp only [resolve, rangeCall, e1, Deferred.ofValue]
    simp [Sem.run_pure, Act.eval]
  · exact fun _ _ => trivial
  · have hf := hI.1
    unfold isFn at hf
    split at hf
    · rename_i fn' hfn
      simp only [Bool.and_eq_true, Bool.not_eq_true'] at hf
      have hb : fn'.body.isNone = false := by
        cases hfb : fn'.body with
        | none => rw [hfb] at hf; simp at hf
        | some c => rfl
      have h1 : ¬ fn'.name = "runtime.NumGoroutine" := by simpa using hf.1
      have h2 : ¬ fn'.body = none := by intro h; rw [h] at hb; cases hb
      simp [invoke, callFunc, program, Sem.run_bind, Sem.run, Result.andThen_ok, hfn, h1, h2]
    · cases hf
  · exact fun h => (by simp [FW, Fence.wide] at h)
  · refine calls_fw (hcall.mono ?_)
    rintro e w' ⟨v, r, S', m', N', Z', br, rfl, rfl, hm, G', hv, hq⟩
    rw [List.append_nil] at hm
    obtain ⟨G'', _⟩ := Good.freeze (ex := br) (ex' := []) (by simpa using (G3.perm (by have := hsl [((N + 1, .tv K), [])] [((N, .raw l (.loop (rec .ready none))), [l])] Zi Zf; simpa using this)).after G') _ rfl
    have hle' : m3.Le { m' with F := fun b => m'.F b ∨ b ∈ br } := G'.le.trans ⟨fun _ h => h, fun _ _ _ h => h, fun b hb => ⟨.inl hb, rfl⟩⟩
    have hT' : TRel m0 { m' with F := fun b => m'.F b ∨ b ∈ br } nt T { a with defers := [markD m.w.heap.size] ++ a.defers } := by
      have h5 := h4.mono (hle03.trans hle')
      refine ⟨h5.1, ?_, h5.2.2⟩
      obtain ⟨ds, h6, h7, h8⟩ := h4.2.1
      refine ⟨m.w.heap.size :: ds, by rw [h6]; rfl, List.nodup_cons.2 ⟨fun h => ?_, h7⟩, fun d hd => ?_⟩
      · have := h3.frz _ (h8 _ h).2.1
        omega
      · rcases List.mem_cons.1 hd with rfl | hd
        · exact ⟨h3.size, (hle'.F _ h0F).1, (hle'.F _ h0F).2.trans h0D⟩
        · obtain ⟨h9, h10, h11⟩ := h8 d hd
          exact ⟨h9, ((hle03.trans hle').F _ h10).1, ((hle03.trans hle').F _ h10).2.trans h11⟩
    have fin : ∀ (pre : List Slot) (rc : Loop), rc.state ≠ .busy → S' = pre ++ (N, .raw l (.loop rc)) :: (N + 1, .tv K) :: Sf → ∃ w4, (Instr.endLoop l).run P m'.w = .ok rc.pending w4 ∧ Rel nt m0 ⟨T, pre ++ Sf⟩ { a with defers := [markD m.w.heap.size] ++ a.defers } w4 := by
      rintro pre rc hrc rfl
      have hrel : Rel nt m0 ⟨T, pre ++ (N, .raw l (.loop rc)) :: ((N + 1, .tv K) :: Sf)⟩ { a with defers := [markD m.w.heap.size] ++ a.defers } m'.w := ⟨{ m' with F := fun b => m'.F b ∨ b ∈ br }, N', Z', rfl, hm, G'', hT'⟩
      obtain ⟨hb5, hr5⟩ := hrel.setRaw (o' := .loop { rc with state := .exhausted })
      refine ⟨_, run_endLoop hb5 hrc, hr5.sub ?_⟩
      exact List.Sublist.append_left (List.Sublist.cons _ (List.Sublist.cons _ (List.Sublist.refl _))) _
    rcases hq with ⟨b, hRb, hS'⟩ | ⟨c, pre, hS', hx⟩
    · obtain ⟨w4, h5, h6⟩ := fin (inv b) (rec .ready none) (by rw [hrec]; simp) hS'
      refine ⟨none, w4, by rw [h5, hrec], _, h6, hdone b hRb⟩
    · obtain ⟨w4, h5, h6⟩ := fin pre (rec .done (some c)) (by rw [hrec]; simp) hS'
      exact ⟨some c, w4, by rw [h5, hrec], hx m0 _ _ h6⟩
end
section
variable {P : Program} {nt : Nat} {ops : Array Oper} {Q : Exit → St → Prop} {rest : List Oper} {T : List (Nat × AV)} {Si Sl Sf ob : List Slot} {y : Value} {xs : List YO} {J : Nat → List Slot → Prop} {Jx : List Slot → Prop} {dst : Option Tmp} {ty : TypeId} {pos : String} {after : Array Edge} {x x0 x1 : Operand} {v0 v1 : AV} {ats : Array TypeId} {i : Nat}
theorem AOps.yieldO2 {yo : YO} (C : Nat) (hY : YldO P y xs J Jx) (hJ : J i Sl) (hi : xs[i]? = some yo) (h1 : (yo C).1 = [v0, v1]) (h2 : (yo C).2 = ob) (kt : ∀ Sl', J (i + 1) Sl' → AOps ro P nt ops Q rest ⟨putD T dst (.prim (.bool true)), Si ++ (Sl' ++ Sf)⟩) (kf : ∀ Sl', Jx Sl' → AOps ro P nt ops Q rest ⟨putD T dst (.prim (.bool false)), Si ++ (Sl' ++ Sf)⟩)
    (hx : ev T x = some (.prim y) := by rfl) (e0 : ev T x0 = some v0 := by rfl) (e1 : ev T x1 = some v1 := by rfl) (ht : noTup [(x0, v0), (x1, v1)] = true := by rfl) (hd : dstOk dst nt = true := by rfl) :
    AOps ro P nt ops Q (⟨dst, .call ⟨.value x, #[x0, x1], ats⟩, ty, pos, after, none⟩ :: rest) ⟨T, Si ++ ((ob ++ Sl) ++ Sf)⟩ :=
  AOps.yieldO (ys := [(x0, v0), (x1, v1)]) (C := C) hY hJ hi h1 h2 hx (.cons e0 (.cons e1 .nil)) ht hd kt kf
end
end Go.Proofs.YtkoehhpfjpdkcaaGreat

namespace Go.Proofs.YtkoehhpfjpdkcaaGreat
set_option linter.unusedVariables false
set_option linter.unusedSimpArgs false
variable {ro : Option Nat}
open Go.RowKit
/-- As LocOK, where the objects are as J says. -/
def LocOKJ (J : List Slot → Prop) (P : Program) (nt : Nat) (ops : Array Oper) (e : Eff) (st : St) : Prop :=
  ∀ m0 T S a w, J S → (∀ t ∈ e.rT, look T t = look st.T t) → (∀ p ∈ e.rS, S[p]? = st.S[p]?) → Rel nt m0 ⟨T, S⟩ a w →
    if Region.wanted e.o (yielded ops a.tmps) then e.o.wp P a w (fun a' w' => Rel nt m0 (e.app ⟨T, S⟩) a' w') (fun _ _ _ => False) else Rel nt m0 (e.app ⟨T, S⟩) (a.put e.o.dst undef) w
/-- A run where some operations read objects that others turn: they do the same at all states as J says. -/
inductive RunJ (J : List Slot → Prop) (P : Program) (nt : Nat) (ops : Array Oper) : List Oper → St → List Eff → St → Prop
  | nil {st : St} : RunJ J P nt ops [] st [] st
  | step {o : Oper} {rest : List Oper} {st st' : St} {xs : List (Operand × AV)} {rS : List (Nat × Slot)} {v : AV} {wS : List (Nat × Slot)} {effs : List Eff} (hg : o.guard = none) (h : OpT P o xs rS v wS) (hx : Evs st.T xs) (hS : Gets st.S rS) (hd : dstOk o.dst nt = true) (hJ : ∀ S, J S → J (setAll S wS))
      (k : RunJ J P nt ops rest ⟨putD st.T o.dst v, setAll st.S wS⟩ effs st') : RunJ J P nt ops (o :: rest) st (⟨o, tmpsOf xs, rS.map (·.1), v, wS⟩ :: effs) st'
  | soft {o : Oper} {rest : List Oper} {st st' : St} {xs : List (Operand × AV)} {v : AV} {effs : List Eff} (hg : o.guard = none) (h : ∀ S, J S → ∃ rS, OpT P o xs rS v [] ∧ Gets S rS) (hx : Evs st.T xs) (hd : dstOk o.dst nt = true)
      (k : RunJ J P nt ops rest ⟨putD st.T o.dst v, st.S⟩ effs st') : RunJ J P nt ops (o :: rest) st (⟨o, tmpsOf xs, [], v, []⟩ :: effs) st'
section
variable {P : Program} {nt : Nat} {ops : Array Oper} {J : List Slot → Prop}
theorem stX_J {effs : List Eff} (h : ∀ e ∈ effs, ∀ S, J S → J (setAll S e.wS)) : ∀ (k : Nat) (X : Nat → Bool) (s : St), J s.S → J (stX effs k X s).S := by
  induction effs with
  | nil => intro k X s hs; exact hs
  | cons e r ih =>
    intro k X s hs
    simp only [stX]
    refine ih (fun e' he' => h e' (by simp [he'])) _ _ _ ?_
    cases X k
    · exact hs
    · exact h e (by simp) _ hs
theorem RunJ.spec {l : List Oper} {st st' : St} {effs : List Eff} (h : RunJ J P nt ops l st effs st') : st' = stX effs 0 (fun _ => true) st ∧ effs.map (·.o) = l ∧
    (∀ i e, effs[i]? = some e → LocOKJ J P nt ops e (stX effs 0 (fun j => decide (j < i)) st)) ∧ (J st.S → ∀ X, J (stX effs 0 X st).S) := by
  have shift : ∀ (e0 : Eff) (effs : List Eff) (st : St) (i : Nat), stX (e0 :: effs) 0 (fun j => decide (j < i + 1)) st = stX effs 0 (fun j => decide (j < i)) (e0.app st) := by
    intro e0 effs st i
    show stX effs (0 + 1) (fun j => decide (j < i + 1)) (match decide (0 < i + 1) with | true => e0.app st | false => st) = _
    rw [stX_shift, decide_eq_true (Nat.succ_pos i)]
    simp
  have full : ∀ (e0 : Eff) (effs : List Eff) (st : St), stX (e0 :: effs) 0 (fun _ => true) st = stX effs 0 (fun _ => true) (e0.app st) := by
    intro e0 effs st
    show stX effs (0 + 1) (fun _ => true) (e0.app st) = _
    rw [stX_shift]
  have first : ∀ (e0 : Eff) (effs : List Eff) (st : St), stX (e0 :: effs) 0 (fun j => decide (j < 0)) st = st := by
    intro e0 effs st
    have : (fun j : Nat => decide (j < 0)) = fun _ => false := by funext j; simp
    rw [this, stX_none]
  have hJ : ∀ e ∈ effs, ∀ S, J S → J (setAll S e.wS) := by
    clear shift full first
    induction h with
    | nil => intro e he; cases he
    | step hg h hx hS hd hJ k ih =>
      intro e he
      rcases List.mem_cons.1 he with rfl | he
      · exact hJ
      · exact ih e he
    | soft hg h hx hd k ih =>
      intro e he
      rcases List.mem_cons.1 he with rfl | he
      · exact fun S hS => hS
      · exact ih e he
  have main : st' = stX effs 0 (fun _ => true) st ∧ effs.map (·.o) = l ∧ (∀ i e, effs[i]? = some e → LocOKJ J P nt ops e (stX effs 0 (fun j => decide (j < i)) st)) := by
    clear hJ
    induction h with
    | nil => exact ⟨rfl, rfl, fun i e h => by simp at h⟩
    | step hg h hx hS hd hJ k ih =>
      obtain ⟨h1, h2, h3⟩ := ih
      refine ⟨by rw [full]; exact h1, by simp [h2], fun i e he => ?_⟩
      cases i with
      | zero =>
        simp at he
        subst he
        rw [first]
        intro m0 T S a w _ hT hSS hr
        rw [if_pos (by simp [Region.wanted, hg])]
        exact h nt m0 T S a w (evs_local hx hT) (gets_local hS hSS) (dstOk_lt hd) hr
      | succ i =>
        rw [shift]
        exact h3 i e (by simpa using he)
    | soft hg h hx hd k ih =>
      obtain ⟨h1, h2, h3⟩ := ih
      refine ⟨by rw [full]; exact h1, by simp [h2], fun i e he => ?_⟩
      cases i with
      | zero =>
        simp at he
        subst he
        rw [first]
        intro m0 T S a w hj hT hSS hr
        rw [if_pos (by simp [Region.wanted, hg])]
        obtain ⟨rS, h4, h5⟩ := h S hj
        exact h4 nt m0 T S a w (evs_local hx hT) h5.all (dstOk_lt hd) hr
      | succ i =>
        rw [shift]
        exact h3 i e (by simpa using he)
  exact ⟨main.1, main.2.1, main.2.2, fun h0 X => stX_J hJ 0 X st h0⟩
theorem any_orderJ {J : List Slot → Prop} {m0 : Mem} {st : St} {effs : List Eff} {Q' : Exit → Act → World → Prop} (heff : effs.map (·.o) = ops.toList) (hloc : ∀ i e, effs[i]? = some e → LocOKJ J P nt ops e (stX effs 0 (fun j => decide (j < i)) st))
    (hJ : ∀ X, J (stX effs 0 X st).S) (hc : compat effs (masks ops.toList []) = true) (hdn : down ops.toList 0 = true) (hQ : ∀ a w, Rel nt m0 (stX effs 0 (fun _ => true) st) a w → Q' .normal a w) :
    ∀ (fuel : Nat) (X : Array Bool) (a : Act) (w : World), X.size = ops.size → (∀ j o, ops.toList[j]? = some o → X.getD j false = true → ∀ e ∈ o.after.toList, Region.binds .any e = true → X.getD e.on false = true) →
      ((List.range ops.size).filter fun j => !X.getD j false).length ≤ fuel → Rel nt m0 (stX effs 0 (fun j => X.getD j false) st) a w → wpAnyIn (FW ro) 0 P .any ops Q' fuel X a w := by
  have hlen : effs.length = ops.size := by have := congrArg List.length heff; simpa using this
  -- all are listed
  have done : ∀ (X : Array Bool) a w, (∀ j, j < ops.size → X.getD j false = true) → Rel nt m0 (stX effs 0 (fun j => X.getD j false) st) a w → Q' .normal a w := by
    intro X a w hall hr
    refine hQ a w ?_
    have hT : ∀ t, look (stX effs 0 (fun j => X.getD j false) st).T t = look (stX effs 0 (fun _ => true) st).T t := fun t =>
      stX_look (fun j e he _ => by rw [Nat.zero_add]; exact hall j (by rw [← hlen]; exact (List.getElem?_eq_some_iff.1 he).1)) rfl
    have hS : (stX effs 0 (fun j => X.getD j false) st).S = (stX effs 0 (fun _ => true) st).S := List.ext_getElem? fun p =>
      stX_get (fun j e he _ => by rw [Nat.zero_add]; exact hall j (by rw [← hlen]; exact (List.getElem?_eq_some_iff.1 he).1)) rfl rfl
    have hr' : Rel nt m0 ⟨(stX effs 0 (fun _ => true) st).T, (stX effs 0 (fun j => X.getD j false) st).S⟩ a w := Rel.congr hr fun d v h => (hT d).trans h
    rw [hS] at hr'
    exact hr'
  have ready : ∀ (X : Array Bool), X.size = ops.size → Region.ready .any ops X = [] → ∀ j, j < ops.size → X.getD j false = true := by
    intro X hX hnil j
    induction j using Nat.strongRecOn with
    | _ j ih =>
      intro hj
      cases hx : X.getD j false with
      | true => rfl
      | false =>
        exfalso
        have : j ∈ Region.ready .any ops X := by
          refine List.mem_filter.2 ⟨List.mem_range.2 hj, ?_⟩
          have ho : ops[j]? = some ops[j] := by simp [hj]
          have hx' : X.getD j true = false := by
            have hjX : j < X.size := by omega
            simp only [Array.getD_eq_getD_getElem?, Array.getElem?_eq_getElem hjX, Option.getD_some] at hx ⊢
            exact hx
          simp only [hx', ho, Option.map_some, Option.getD_some, Bool.not_false, Bool.true_and]
          rw [Array.all_eq_true']
          intro e he
          cases hb : Region.binds .any e with
          | false => simp
          | true =>
            have hlt := down_spec _ 0 hdn j ops[j] (by simp [hj]) e (by simpa using he) hb
            have := ih e.on (by omega) (by omega)
            simpa using this
        rw [hnil] at this
        cases this
  intro fuel
  induction fuel with
  | zero =>
    intro X a w hX hdc hf hr
    have hall : ∀ j, j < ops.size → X.getD j false = true := by
      intro j hj
      have hnil := List.eq_nil_of_length_eq_zero (Nat.le_zero.1 hf)
      cases hx : X.getD j false with
      | true => rfl
      | false =>
        have : j ∈ (List.range ops.size).filter fun j => !X.getD j false := List.mem_filter.2 ⟨List.mem_range.2 hj, by simp only [hx, Bool.not_false]⟩
        rw [hnil] at this
        cases this
    refine ⟨List.filter_eq_nil_iff.2 fun j hj => ?_, done X a w hall hr⟩
    have hj' := List.mem_range.1 hj
    have := hall j hj'
    have hjX : j < X.size := by omega
    simp only [Array.getD_eq_getD_getElem?, Array.getElem?_eq_getElem hjX, Option.getD_some] at this ⊢
    simp [this]
  | succ fuel ih =>
    intro X a w hX hdc hf hr
    refine ⟨fun hnil => done X a w (ready X hX hnil) hr, fun i hi => ?_⟩
    obtain ⟨hi1, hi2⟩ := List.mem_filter.1 hi
    have hin := List.mem_range.1 hi1
    have ho : ops[i]? = some ops[i] := by simp [hin]
    have hiX : i < X.size := by omega
    simp only [ho, Option.map_some, Option.getD_some, Bool.and_eq_true] at hi2
    have hXi : X.getD i false = false := by
      have h := hi2.1
      simp only [Array.getD_eq_getD_getElem?, Array.getElem?_eq_getElem hiX, Option.getD_some] at h ⊢
      simpa using h
    have hpre : ∀ e ∈ (ops[i]).after.toList, Region.binds .any e = true → X.getD e.on false = true := by
      intro e he hb
      have := Array.all_eq_true'.1 hi2.2 e (by simpa using he)
      simpa [hb] using this
    -- the effect of i
    obtain ⟨e, he⟩ : ∃ e, effs[i]? = some e := ⟨effs[i]'(by omega), by simp [hlen, hin]⟩
    have heo : e.o = ops[i] := by
      have h1 : (effs.map (·.o))[i]? = some e.o := by simp [he]
      rw [heff] at h1
      simpa [hin] using h1.symm
    -- who clashes with i is ordered
    have hmask := masks_spec (fun j => X.getD j false) ops.toList [] (fun j o hj hXj e he hb => hdc j o hj (by simpa using hXj) e he hb) (fun j m h => by simp at h)
    have hcomp : ∀ a b ea eb, a < b → effs[a]? = some ea → effs[b]? = some eb → clash ea eb = true → ∃ m : Nat, (masks ops.toList [])[b]? = some m ∧ m.testBit a = true := by
      intro a b ea eb hab hea heb hcl
      have h1 := List.all_eq_true.1 hc b (List.mem_range.2 (List.getElem?_eq_some_iff.1 heb).1)
      have h2 := List.all_eq_true.1 h1 a (List.mem_range.2 hab)
      simp only [hea, heb] at h2
      cases hm : (masks ops.toList [])[b]? with
      | none => rw [hm] at h2; cases h2
      | some m => rw [hm] at h2; exact ⟨m, rfl, by simpa [hcl] using h2⟩
    have hbefore : ∀ j ej, j < i → effs[j]? = some ej → clash ej e = true → X.getD j false = true := by
      intro j ej hj hej hcl
      obtain ⟨m, hm1, hm2⟩ := hcomp j i ej e hj hej he hcl
      -- X with i listed is closed too
      have hcl2 := masks_spec (fun k => X.getD k false || decide (k = i)) ops.toList [] (fun k o hk hXk ee hee hb => by
        simp only [List.length_nil, Nat.zero_add, Bool.or_eq_true, decide_eq_true_eq] at hXk ⊢
        rcases hXk with h | h
        · exact .inl (hdc k o hk h ee hee hb)
        · subst h
          have : o = ops[k] := by simpa [hin] using hk.symm
          subst this
          exact .inl (hpre ee hee hb)) (fun j m h => by simp at h) i m hm1 (by simp) j hm2
      simp only [Bool.or_eq_true, decide_eq_true_eq] at hcl2
      rcases hcl2 with h | h
      · exact h
      · omega
    have hafter : ∀ j ej, i < j → effs[j]? = some ej → clash e ej = true → X.getD j false = false := by
      intro j ej hj hej hcl
      obtain ⟨m, hm1, hm2⟩ := hcomp i j e ej hj he hej hcl
      cases hx : X.getD j false with
      | false => rfl
      | true =>
        have := hmask j m hm1 hx i hm2
        rw [hXi] at this
        cases this
    -- what i reads is as in the text's order
    have hrT : ∀ t ∈ e.rT, look (stX effs 0 (fun j => X.getD j false) st).T t = look (stX effs 0 (fun j => decide (j < i)) st).T t := by
      intro t ht
      refine stX_look (fun j ej hej hd => ?_) rfl
      rw [Nat.zero_add]
      rcases Nat.lt_trichotomy j i with h | h | h
      · rw [hbefore j ej h hej ?_]
        · simp [h]
        · cases hcl : clash ej e with
          | true => rfl
          | false => exact absurd ht ((clash_spec hcl).1 t hd)
      · subst h
        rw [hXi]; simp
      · rw [hafter j ej h hej ?_]
        · simp; omega
        · cases hcl : clash e ej with
          | true => rfl
          | false => exact absurd ht ((clash_spec hcl).2.1 t hd)
    have hrS : ∀ p ∈ e.rS, (stX effs 0 (fun j => X.getD j false) st).S[p]? = (stX effs 0 (fun j => decide (j < i)) st).S[p]? := by
      intro p hp
      refine stX_get (fun j ej hej hd => ?_) rfl rfl
      rw [Nat.zero_add]
      obtain ⟨q, hq, rfl⟩ := hd
      rcases Nat.lt_trichotomy j i with h | h | h
      · rw [hbefore j ej h hej ?_]
        · simp [h]
        · cases hcl : clash ej e with
          | true => rfl
          | false => exact absurd hp ((clash_spec hcl).2.2.2.1 q hq)
      · subst h
        rw [hXi]; simp
      · rw [hafter j ej h hej ?_]
        · simp; omega
        · cases hcl : clash e ej with
          | true => rfl
          | false => exact absurd hp ((clash_spec hcl).2.2.2.2.1 q hq)
    -- the state with i listed
    have hX' : ∀ k, (X.setIfInBounds i true).getD k false = (X.getD k false || decide (k = i)) := by
      intro k
      simp only [Array.getD_eq_getD_getElem?, Array.getElem?_setIfInBounds]
      by_cases hk : i = k
      · subst hk; simp [hiX]
      · simp [hk, Ne.symm hk]
    have hnew : ∀ a w, Rel nt m0 (e.app (stX effs 0 (fun j => X.getD j false) st)) a w → Rel nt m0 (stX effs 0 (fun j => (X.setIfInBounds i true).getD j false) st) a w := by
      intro a w hr'
      have hT : ∀ t, look (stX effs 0 (fun j => (X.setIfInBounds i true).getD j false) st).T t = look (e.app (stX effs 0 (fun j => X.getD j false) st)).T t := by
        intro t
        by_cases hd : e.o.dst = some t
        · rw [stX_last (i := i) (e := e) (t := t) he (by rw [Nat.zero_add, hX']; simp) hd ?_]
          · simp [Eff.app, hd, putD, look_cons]
          · intro j ej hj hej hXj hdj
            rw [Nat.zero_add, hX'] at hXj
            have hXj' : X.getD j false = true := by
              simp only [Bool.or_eq_true, decide_eq_true_eq] at hXj
              rcases hXj with h | h
              · exact h
              · omega
            have := hafter j ej hj hej (by
              cases hcl : clash e ej with
              | true => rfl
              | false => exact absurd hdj ((clash_spec hcl).2.2.1 t hd))
            rw [hXj'] at this
            cases this
        · have ap : look (e.app (stX effs 0 (fun j => X.getD j false) st)).T t = look (stX effs 0 (fun j => X.getD j false) st).T t := by
            simp only [Eff.app]
            cases hdd : e.o.dst with
            | none => rfl
            | some d => rw [putD, look_cons, if_neg]; exact fun h => hd (by rw [hdd, h])
          rw [ap]
          refine stX_look (fun j ej hej hdj => ?_) rfl
          rw [Nat.zero_add, hX']
          have : j ≠ i := by
            rintro rfl
            rw [he] at hej
            injection hej with hej
            subst hej
            exact hd hdj
          simp [this]
      have hS : (stX effs 0 (fun j => (X.setIfInBounds i true).getD j false) st).S = (e.app (stX effs 0 (fun j => X.getD j false) st)).S := by
        refine List.ext_getElem? fun p => ?_
        by_cases hd : ∃ q ∈ e.wS, q.1 = p
        · rw [stX_lastS (i := i) (e := e) (p := p) he (by rw [Nat.zero_add, hX']; simp) hd ?_ (stX effs 0 (fun j => X.getD j false) st).S (stX_len ..)]
          · rfl
          · intro j ej hj hej hXj hdj
            rw [Nat.zero_add, hX'] at hXj
            have hXj' : X.getD j false = true := by
              simp only [Bool.or_eq_true, decide_eq_true_eq] at hXj
              rcases hXj with h | h
              · exact h
              · omega
            obtain ⟨q, hq, hqp⟩ := hd
            obtain ⟨q', hq', hqp'⟩ := hdj
            have := hafter j ej hj hej (by
              cases hcl : clash e ej with
              | true => rfl
              | false => exact absurd (hqp.trans hqp'.symm) ((clash_spec hcl).2.2.2.2.2 q hq q' hq'))
            rw [hXj'] at this
            cases this
        · have ap : (e.app (stX effs 0 (fun j => X.getD j false) st)).S[p]? = (stX effs 0 (fun j => X.getD j false) st).S[p]? := setAll_ne (fun q hq h => hd ⟨q, hq, h⟩) _
          rw [ap]
          refine stX_get (fun j ej hej hdj => ?_) rfl rfl
          rw [Nat.zero_add, hX']
          have : j ≠ i := by
            rintro rfl
            rw [he] at hej
            injection hej with hej
            subst hej
            exact hd hdj
          simp [this]
      have := Rel.congr hr' (T' := (stX effs 0 (fun j => (X.setIfInBounds i true).getD j false) st).T) fun d v h => (hT d).symm.trans h
      rw [show (⟨(stX effs 0 (fun j => (X.setIfInBounds i true).getD j false) st).T, setAll (stX effs 0 (fun j => X.getD j false) st).S e.wS⟩ : St) = stX effs 0 (fun j => (X.setIfInBounds i true).getD j false) st from by
        rw [show setAll (stX effs 0 (fun j => X.getD j false) st).S e.wS = (e.app (stX effs 0 (fun j => X.getD j false) st)).S from rfl, ← hS]] at this
      exact this
    have next : ∀ a w, Rel nt m0 (e.app (stX effs 0 (fun j => X.getD j false) st)) a w → wpAnyIn (FW ro) 0 P .any ops Q' fuel (X.setIfInBounds i true) a w := by
      intro a w hr'
      refine ih _ a w (by simp [hX]) ?_ ?_ (hnew a w hr')
      · intro j o hj hXj ee hee hb
        rw [hX'] at hXj ⊢
        simp only [Bool.or_eq_true, decide_eq_true_eq] at hXj ⊢
        rcases hXj with h | h
        · exact .inl (hdc j o hj h ee hee hb)
        · subst h
          have : o = ops[j] := by simpa [hin] using hj.symm
          subst this
          exact .inl (hpre ee hee hb)
      · have e1 : (List.range ops.size).filter (fun j => !(X.setIfInBounds i true).getD j false) = ((List.range ops.size).filter fun j => !X.getD j false).filter fun j => !decide (j = i) := by
          rw [List.filter_filter]
          congr 1
          funext j
          rw [hX']
          cases X.getD j false <;> simp
        have hmem : i ∈ (List.range ops.size).filter fun j => !X.getD j false := List.mem_filter.2 ⟨List.mem_range.2 hin, by simp only [hXi, Bool.not_false]⟩
        have := (List.length_filter_lt_length_iff_exists (l := (List.range ops.size).filter fun j => !X.getD j false) (p := fun j => !decide (j = i))).2 ⟨i, hmem, by simp⟩
        rw [e1]
        omega
    have hl := hloc i e he m0 _ _ a w (hJ _) hrT hrS hr
    unfold wpOpIn
    simp only [ho]
    rw [heo] at hl
    by_cases hw : Region.wanted ops[i] (yielded ops a.tmps) = true
    · rw [if_pos hw] at hl ⊢
      exact wpIn_fw hl next
    · rw [if_neg hw] at hl ⊢
      exact ⟨fun _ _ => trivial, next _ _ hl⟩

theorem AWP.region_anyJ {J : List Slot → Prop} {Q : Exit → St → Prop} {id : Nat} {l : List Oper} {st st' : St} {effs : List Eff} (hm : P.follows .mixedOrders = true) (hr : RunJ J P nt l.toArray l st effs st') (hJ0 : J st.S) (hc : compat effs (masks l []) = true) (hdn : down l 0 = true) (hQ : Q .normal st') : AWP ro P nt (.region id l.toArray true) Q st := by
  intro m0 a w hrel
  obtain ⟨h1, h2, h3, h4⟩ := hr.spec
  refine wpIn_region_any hm (any_orderJ (m0 := m0) (st := st) (effs := effs) (by simpa using h2) h3 (h4 hJ0) (by simpa using hc) (by simpa using hdn) (fun a w h => ⟨st', by rw [h1]; exact h, hQ⟩) _ _ a _ (by simp) ?_ ?_ ?_)
  · intro j o hj hX
    have : j < l.length := (List.getElem?_eq_some_iff.1 hj).1
    simp [this] at hX
  · exact Nat.le_trans (List.length_filter_le _ _) (by simp)
  · have : (fun j => (Array.replicate l.toArray.size false).getD j false) = fun _ => false := by
      funext j
      simp only [Array.getD_eq_getD_getElem?, Array.getElem?_replicate]
      split <;> rfl
    rw [this, stX_none]
    exact hrel.draw _

def RGoJ (J : List Slot → Prop) (P : Program) (nt : Nat) (ops : Array Oper) (l : List Oper) (Q : Exit → St → Prop) (rest : List Oper) (acc : List Eff) (st : St) : Prop :=
  ∃ effs st', RunJ J P nt ops rest st effs st' ∧ compat (acc ++ effs) (masks l []) = true ∧ Q .normal st'
theorem AWP.region_runJ (J : List Slot → Prop) {Q : Exit → St → Prop} {id : Nat} {l : List Oper} {st : St} (hm : P.follows .mixedOrders = true) (hdn : down l 0 = true) (hJ : J st.S) (h : RGoJ J P nt l.toArray l Q l [] st) : AWP ro P nt (.region id l.toArray true) Q st := by
  obtain ⟨effs, st', h1, h2, h3⟩ := h
  exact .region_anyJ hm h1 hJ (by simpa using h2) hdn h3
section
variable {Q : Exit → St → Prop} {l rest : List Oper} {acc : List Eff} {st : St} {T : List (Nat × AV)} {S : List Slot} {xs : List (Operand × AV)} {rS wS : List (Nat × Slot)} {v : AV} {op : Op} {ty : TypeId} {pos : String} {after : Array Edge} {dst : Option Tmp}
theorem RGoJ.nil (hc : compat acc (masks l []) = true) (k : Q .normal st) : RGoJ J P nt ops l Q [] acc st := ⟨[], st, .nil, by simpa using hc, k⟩
theorem RGoJ.p (h : Stp none P ⟨dst, op, ty, pos, after, none⟩ T S xs rS v []) (hd : dstOk dst nt = true) (k : RGoJ J P nt ops l Q rest (acc ++ [⟨⟨dst, op, ty, pos, after, none⟩, tmpsOf xs, rS.map (·.1), v, []⟩]) ⟨putD T dst v, S⟩) : RGoJ J P nt ops l Q (⟨dst, op, ty, pos, after, none⟩ :: rest) acc ⟨T, S⟩ := by
  obtain ⟨effs, st', h1, h2, h3⟩ := k
  exact ⟨_, _, .step rfl h.op h.rd.evs h.get hd (fun _ h => h) h1, by simpa using h2, h3⟩
theorem RGoJ.go (k : RGoJ J P nt ops l Q rest (acc ++ [⟨⟨dst, op, ty, pos, after, none⟩, tmpsOf xs, rS.map (·.1), v, []⟩]) ⟨putD T dst v, S⟩) (h : Stp none P ⟨dst, op, ty, pos, after, none⟩ T S xs rS v [] := by exact Stp.f0) (hd : dstOk dst nt = true := by rfl) : RGoJ J P nt ops l Q (⟨dst, op, ty, pos, after, none⟩ :: rest) acc ⟨T, S⟩ := .p h hd k
theorem RGoJ.s (hJ : ∀ S, J S → J (setAll S wS)) (h : Stp none P ⟨dst, op, ty, pos, after, none⟩ T S xs rS v wS) (hd : dstOk dst nt = true) (k : RGoJ J P nt ops l Q rest (acc ++ [⟨⟨dst, op, ty, pos, after, none⟩, tmpsOf xs, rS.map (·.1), v, wS⟩]) ⟨putD T dst v, setAll S wS⟩) : RGoJ J P nt ops l Q (⟨dst, op, ty, pos, after, none⟩ :: rest) acc ⟨T, S⟩ := by
  obtain ⟨effs, st', h1, h2, h3⟩ := k
  exact ⟨_, _, .step rfl h.op h.rd.evs h.get hd hJ h1, by simpa using h2, h3⟩
/-- The object at p is one of two. -/
def JP (p : Nat) (z1 z2 : Slot) : List Slot → Prop := fun S => S[p]? = some z1 ∨ S[p]? = some z2
theorem RGoJ.soft {p : Nat} {z1 z2 : Slot} {S1 S2 : List Slot} (h1 : Stp none P ⟨dst, op, ty, pos, after, none⟩ T S1 xs [(p, z1)] v []) (h2 : Stp none P ⟨dst, op, ty, pos, after, none⟩ T S2 xs [(p, z2)] v []) (hd : dstOk dst nt = true)
    (k : RGoJ (JP p z1 z2) P nt ops l Q rest (acc ++ [⟨⟨dst, op, ty, pos, after, none⟩, tmpsOf xs, [], v, []⟩]) ⟨putD T dst v, S⟩) : RGoJ (JP p z1 z2) P nt ops l Q (⟨dst, op, ty, pos, after, none⟩ :: rest) acc ⟨T, S⟩ := by
  obtain ⟨effs, st', k1, k2, k3⟩ := k
  have at_of : ∀ {S : List Slot} {p : Nat} {z : Slot}, S[p]? = some z → At S p z := by
    intro S
    induction S with
    | nil => intro p z h; simp at h
    | cons y S ih =>
      intro p z h
      cases p with
      | zero => simp at h; subst h; exact .here
      | succ p => exact .next (ih (by simpa using h))
  refine ⟨_, _, .soft rfl (fun S hS => ?_) h1.rd.evs hd k1, by simpa using k2, k3⟩
  rcases hS with h | h
  · exact ⟨_, h1.op, .cons (at_of h) .nil⟩
  · exact ⟨_, h2.op, .cons (at_of h) .nil⟩
theorem JP.ne {p q : Nat} {z1 z2 z : Slot} (h : q ≠ p) : ∀ S, JP p z1 z2 S → JP p z1 z2 (setAll S [(q, z)]) := fun S hS => by
  unfold JP at hS ⊢
  show (S.set q z)[p]? = _ ∨ (S.set q z)[p]? = _
  rw [List.getElem?_set_ne h]
  exact hS
theorem JP.set1 {p : Nat} {z1 z2 : Slot} : ∀ S, JP p z1 z2 S → JP p z1 z2 (setAll S [(p, z1)]) := fun S hS => by
  have : p < S.length := by rcases hS with h | h <;> exact (List.getElem?_eq_some_iff.1 h).1
  exact .inl (List.getElem?_set_self this)
theorem JP.set2 {p : Nat} {z1 z2 : Slot} : ∀ S, JP p z1 z2 S → JP p z1 z2 (setAll S [(p, z2)]) := fun S hS => by
  have : p < S.length := by rcases hS with h | h <;> exact (List.getElem?_eq_some_iff.1 h).1
  exact .inr (List.getElem?_set_self this)
end
end
end Go.Proofs.YtkoehhpfjpdkcaaGreat

namespace Go.Proofs.YtkoehhpfjpdkcaaGreat
set_option linter.unusedVariables false
end Go.Proofs.YtkoehhpfjpdkcaaGreat

namespace Go.Proofs.YtkoehhpfjpdkcaaGreat
set_option linter.unusedVariables false
set_option linter.unusedSimpArgs false
variable {ro : Option Nat}
open Go.RowKit
section
variable {P : Program} {nt : Nat} {ops : Array Oper}
theorem stX_agree : ∀ {l l' : List Eff} {k : Nat} {X : Nat → Bool} {st : St}, l.length = l'.length → (∀ j, X (k + j) = true → l[j]? = l'[j]?) → stX l k X st = stX l' k X st
  | [], [], _, _, _, _, _ => rfl
  | [], _ :: _, _, _, _, h, _ => by simp at h
  | _ :: _, [], _, _, _, h, _ => by simp at h
  | e :: l, e' :: l', k, X, st, h, ha => by
    have ih := fun st => stX_agree (l := l) (l' := l') (k := k + 1) (X := X) (st := st) (by simpa using h) (fun j hj => by
      have := ha (j + 1) (by rw [show k + (j + 1) = k + 1 + j by omega]; exact hj)
      simpa using this)
    simp only [stX]
    cases hX : X k with
    | false => exact ih _
    | true =>
      have h0 := ha 0 (by simpa using hX)
      simp at h0
      rw [h0]
      exact ih _
theorem any_orderE {β : Type} {m0 : Mem} {st : St} {effs : β → List Eff} {b0 : β} {i0 : Nat} {Q' : Exit → Act → World → Prop} (heff : ∀ b, (effs b).map (·.o) = ops.toList) (hpre : ∀ b b' i, i < i0 → (effs b)[i]? = (effs b')[i]?)
    (hloc : ∀ b i e, i ≠ i0 → (effs b)[i]? = some e → LocOK P nt ops e (stX (effs b) 0 (fun j => decide (j < i)) st))
    (hlocE : ∀ e, (effs b0)[i0]? = some e → e.o.guard = none ∧ (∀ c, e.o.op ≠ .defer c) ∧ ∀ m0 T S a w, (∀ t ∈ e.rT, look T t = look (stX (effs b0) 0 (fun j => decide (j < i0)) st).T t) → (∀ p ∈ e.rS, S[p]? = (stX (effs b0) 0 (fun j => decide (j < i0)) st).S[p]?) → Rel nt m0 ⟨T, S⟩ a w → e.o.wp P a w (fun a' w' => ∃ p : β × Eff, (effs p.1)[i0]? = some p.2 ∧ Rel nt m0 (p.2.app ⟨T, S⟩) a' w') (fun _ _ _ => False))
    (hc : ∀ b, compat (effs b) (masks ops.toList []) = true) (hlater : ∀ j, i0 < j → j < ops.size → ∃ m : Nat, (masks ops.toList [])[j]? = some m ∧ m.testBit i0 = true) (hdn : down ops.toList 0 = true) (hQ : ∀ b a w, Rel nt m0 (stX (effs b) 0 (fun _ => true) st) a w → Q' .normal a w) :
    ∀ (fuel : Nat) (X : Array Bool) (a : Act) (w : World), X.size = ops.size → (∀ j o, ops.toList[j]? = some o → X.getD j false = true → ∀ e ∈ o.after.toList, Region.binds .any e = true → X.getD e.on false = true) →
      ((List.range ops.size).filter fun j => !X.getD j false).length ≤ fuel → (∃ b, Rel nt m0 (stX (effs b) 0 (fun j => X.getD j false) st) a w) → wpAnyIn (FW ro) 0 P .any ops Q' fuel X a w := by
  have hlen : ∀ b, (effs b).length = ops.size := fun b => by have := congrArg List.length (heff b); simpa using this
  -- all are listed
  have done : ∀ b (X : Array Bool) a w, (∀ j, j < ops.size → X.getD j false = true) → Rel nt m0 (stX (effs b) 0 (fun j => X.getD j false) st) a w → Q' .normal a w := by
    intro b X a w hall hr
    refine hQ b a w ?_
    have hT : ∀ t, look (stX (effs b) 0 (fun j => X.getD j false) st).T t = look (stX (effs b) 0 (fun _ => true) st).T t := fun t =>
      stX_look (fun j e he _ => by rw [Nat.zero_add]; exact hall j (by rw [← hlen b]; exact (List.getElem?_eq_some_iff.1 he).1)) rfl
    have hS : (stX (effs b) 0 (fun j => X.getD j false) st).S = (stX (effs b) 0 (fun _ => true) st).S := List.ext_getElem? fun p =>
      stX_get (fun j e he _ => by rw [Nat.zero_add]; exact hall j (by rw [← hlen b]; exact (List.getElem?_eq_some_iff.1 he).1)) rfl rfl
    have hr' : Rel nt m0 ⟨(stX (effs b) 0 (fun _ => true) st).T, (stX (effs b) 0 (fun j => X.getD j false) st).S⟩ a w := Rel.congr hr fun d v h => (hT d).trans h
    rw [hS] at hr'
    exact hr'
  have ready : ∀ (X : Array Bool), X.size = ops.size → Region.ready .any ops X = [] → ∀ j, j < ops.size → X.getD j false = true := by
    intro X hX hnil j
    induction j using Nat.strongRecOn with
    | _ j ih =>
      intro hj
      cases hx : X.getD j false with
      | true => rfl
      | false =>
        exfalso
        have : j ∈ Region.ready .any ops X := by
          refine List.mem_filter.2 ⟨List.mem_range.2 hj, ?_⟩
          have ho : ops[j]? = some ops[j] := by simp [hj]
          have hx' : X.getD j true = false := by
            have hjX : j < X.size := by omega
            simp only [Array.getD_eq_getD_getElem?, Array.getElem?_eq_getElem hjX, Option.getD_some] at hx ⊢
            exact hx
          simp only [hx', ho, Option.map_some, Option.getD_some, Bool.not_false, Bool.true_and]
          rw [Array.all_eq_true']
          intro e he
          cases hb : Region.binds .any e with
          | false => simp
          | true =>
            have hlt := down_spec _ 0 hdn j ops[j] (by simp [hj]) e (by simpa using he) hb
            have := ih e.on (by omega) (by omega)
            simpa using this
        rw [hnil] at this
        cases this
  intro fuel
  induction fuel with
  | zero =>
    intro X a w hX hdc hf hr
    have hall : ∀ j, j < ops.size → X.getD j false = true := by
      intro j hj
      have hnil := List.eq_nil_of_length_eq_zero (Nat.le_zero.1 hf)
      cases hx : X.getD j false with
      | true => rfl
      | false =>
        have : j ∈ (List.range ops.size).filter fun j => !X.getD j false := List.mem_filter.2 ⟨List.mem_range.2 hj, by simp only [hx, Bool.not_false]⟩
        rw [hnil] at this
        cases this
    obtain ⟨b, hr⟩ := hr
    refine ⟨List.filter_eq_nil_iff.2 fun j hj => ?_, done b X a w hall hr⟩
    have hj' := List.mem_range.1 hj
    have := hall j hj'
    have hjX : j < X.size := by omega
    simp only [Array.getD_eq_getD_getElem?, Array.getElem?_eq_getElem hjX, Option.getD_some] at this ⊢
    simp [this]
  | succ fuel ih =>
    intro X a w hX hdc hf hr
    obtain ⟨b1, hr⟩ := hr
    refine ⟨fun hnil => done b1 X a w (ready X hX hnil) hr, fun i hi => ?_⟩
    obtain ⟨hi1, hi2⟩ := List.mem_filter.1 hi
    have hin := List.mem_range.1 hi1
    have ho : ops[i]? = some ops[i] := by simp [hin]
    have hiX : i < X.size := by omega
    simp only [ho, Option.map_some, Option.getD_some, Bool.and_eq_true] at hi2
    have hXi : X.getD i false = false := by
      have h := hi2.1
      simp only [Array.getD_eq_getD_getElem?, Array.getElem?_eq_getElem hiX, Option.getD_some] at h ⊢
      simpa using h
    have hpre : ∀ e ∈ (ops[i]).after.toList, Region.binds .any e = true → X.getD e.on false = true := by
      intro e he hb
      have := Array.all_eq_true'.1 hi2.2 e (by simpa using he)
      simpa [hb] using this
    have key : ∀ b e, (effs b)[i]? = some e → e.o = ops[i] ∧ (∀ t ∈ e.rT, look (stX (effs b) 0 (fun j => X.getD j false) st).T t = look (stX (effs b) 0 (fun j => decide (j < i)) st).T t) ∧ (∀ p ∈ e.rS, (stX (effs b) 0 (fun j => X.getD j false) st).S[p]? = (stX (effs b) 0 (fun j => decide (j < i)) st).S[p]?) ∧
        (∀ a w, Rel nt m0 (e.app (stX (effs b) 0 (fun j => X.getD j false) st)) a w → Rel nt m0 (stX (effs b) 0 (fun j => (X.setIfInBounds i true).getD j false) st) a w) := by
      intro bb e he
      -- the effect of i
      have heo : e.o = ops[i] := by
        have h1 : ((effs bb).map (·.o))[i]? = some e.o := by simp [he]
        rw [heff bb] at h1
        simpa [hin] using h1.symm
      -- who clashes with i is ordered
      have hmask := masks_spec (fun j => X.getD j false) ops.toList [] (fun j o hj hXj e he hb => hdc j o hj (by simpa using hXj) e he hb) (fun j m h => by simp at h)
      have hcomp : ∀ a b ea eb, a < b → (effs bb)[a]? = some ea → (effs bb)[b]? = some eb → clash ea eb = true → ∃ m : Nat, (masks ops.toList [])[b]? = some m ∧ m.testBit a = true := by
        intro a b ea eb hab hea heb hcl
        have h1 := List.all_eq_true.1 (hc bb) b (List.mem_range.2 (List.getElem?_eq_some_iff.1 heb).1)
        have h2 := List.all_eq_true.1 h1 a (List.mem_range.2 hab)
        simp only [hea, heb] at h2
        cases hm : (masks ops.toList [])[b]? with
        | none => rw [hm] at h2; cases h2
        | some m => rw [hm] at h2; exact ⟨m, rfl, by simpa [hcl] using h2⟩
      have hbefore : ∀ j ej, j < i → (effs bb)[j]? = some ej → clash ej e = true → X.getD j false = true := by
        intro j ej hj hej hcl
        obtain ⟨m, hm1, hm2⟩ := hcomp j i ej e hj hej he hcl
        -- X with i listed is closed too
        have hcl2 := masks_spec (fun k => X.getD k false || decide (k = i)) ops.toList [] (fun k o hk hXk ee hee hb => by
          simp only [List.length_nil, Nat.zero_add, Bool.or_eq_true, decide_eq_true_eq] at hXk ⊢
          rcases hXk with h | h
          · exact .inl (hdc k o hk h ee hee hb)
          · subst h
            have : o = ops[k] := by simpa [hin] using hk.symm
            subst this
            exact .inl (hpre ee hee hb)) (fun j m h => by simp at h) i m hm1 (by simp) j hm2
        simp only [Bool.or_eq_true, decide_eq_true_eq] at hcl2
        rcases hcl2 with h | h
        · exact h
        · omega
      have hafter : ∀ j ej, i < j → (effs bb)[j]? = some ej → clash e ej = true → X.getD j false = false := by
        intro j ej hj hej hcl
        obtain ⟨m, hm1, hm2⟩ := hcomp i j e ej hj he hej hcl
        cases hx : X.getD j false with
        | false => rfl
        | true =>
          have := hmask j m hm1 hx i hm2
          rw [hXi] at this
          cases this
      -- what i reads is as in the text's order
      have hrT : ∀ t ∈ e.rT, look (stX (effs bb) 0 (fun j => X.getD j false) st).T t = look (stX (effs bb) 0 (fun j => decide (j < i)) st).T t := by
        intro t ht
        refine stX_look (fun j ej hej hd => ?_) rfl
        rw [Nat.zero_add]
        rcases Nat.lt_trichotomy j i with h | h | h
        · rw [hbefore j ej h hej ?_]
          · simp [h]
          · cases hcl : clash ej e with
            | true => rfl
            | false => exact absurd ht ((clash_spec hcl).1 t hd)
        · subst h
          rw [hXi]; simp
        · rw [hafter j ej h hej ?_]
          · simp; omega
          · cases hcl : clash e ej with
            | true => rfl
            | false => exact absurd ht ((clash_spec hcl).2.1 t hd)
      have hrS : ∀ p ∈ e.rS, (stX (effs bb) 0 (fun j => X.getD j false) st).S[p]? = (stX (effs bb) 0 (fun j => decide (j < i)) st).S[p]? := by
        intro p hp
        refine stX_get (fun j ej hej hd => ?_) rfl rfl
        rw [Nat.zero_add]
        obtain ⟨q, hq, rfl⟩ := hd
        rcases Nat.lt_trichotomy j i with h | h | h
        · rw [hbefore j ej h hej ?_]
          · simp [h]
          · cases hcl : clash ej e with
            | true => rfl
            | false => exact absurd hp ((clash_spec hcl).2.2.2.1 q hq)
        · subst h
          rw [hXi]; simp
        · rw [hafter j ej h hej ?_]
          · simp; omega
          · cases hcl : clash e ej with
            | true => rfl
            | false => exact absurd hp ((clash_spec hcl).2.2.2.2.1 q hq)
      -- the state with i listed
      have hX' : ∀ k, (X.setIfInBounds i true).getD k false = (X.getD k false || decide (k = i)) := by
        intro k
        simp only [Array.getD_eq_getD_getElem?, Array.getElem?_setIfInBounds]
        by_cases hk : i = k
        · subst hk; simp [hiX]
        · simp [hk, Ne.symm hk]
      have hnew : ∀ a w, Rel nt m0 (e.app (stX (effs bb) 0 (fun j => X.getD j false) st)) a w → Rel nt m0 (stX (effs bb) 0 (fun j => (X.setIfInBounds i true).getD j false) st) a w := by
        intro a w hr'
        have hT : ∀ t, look (stX (effs bb) 0 (fun j => (X.setIfInBounds i true).getD j false) st).T t = look (e.app (stX (effs bb) 0 (fun j => X.getD j false) st)).T t := by
          intro t
          by_cases hd : e.o.dst = some t
          · rw [stX_last (i := i) (e := e) (t := t) he (by rw [Nat.zero_add, hX']; simp) hd ?_]
            · simp [Eff.app, hd, putD, look_cons]
            · intro j ej hj hej hXj hdj
              rw [Nat.zero_add, hX'] at hXj
              have hXj' : X.getD j false = true := by
                simp only [Bool.or_eq_true, decide_eq_true_eq] at hXj
                rcases hXj with h | h
                · exact h
                · omega
              have := hafter j ej hj hej (by
                cases hcl : clash e ej with
                | true => rfl
                | false => exact absurd hdj ((clash_spec hcl).2.2.1 t hd))
              rw [hXj'] at this
              cases this
          · have ap : look (e.app (stX (effs bb) 0 (fun j => X.getD j false) st)).T t = look (stX (effs bb) 0 (fun j => X.getD j false) st).T t := by
              simp only [Eff.app]
              cases hdd : e.o.dst with
              | none => rfl
              | some d => rw [putD, look_cons, if_neg]; exact fun h => hd (by rw [hdd, h])
            rw [ap]
            refine stX_look (fun j ej hej hdj => ?_) rfl
            rw [Nat.zero_add, hX']
            have : j ≠ i := by
              rintro rfl
              rw [he] at hej
              injection hej with hej
              subst hej
              exact hd hdj
            simp [this]
        have hS : (stX (effs bb) 0 (fun j => (X.setIfInBounds i true).getD j false) st).S = (e.app (stX (effs bb) 0 (fun j => X.getD j false) st)).S := by
          refine List.ext_getElem? fun p => ?_
          by_cases hd : ∃ q ∈ e.wS, q.1 = p
          · rw [stX_lastS (i := i) (e := e) (p := p) he (by rw [Nat.zero_add, hX']; simp) hd ?_ (stX (effs bb) 0 (fun j => X.getD j false) st).S (stX_len ..)]
            · rfl
            · intro j ej hj hej hXj hdj
              rw [Nat.zero_add, hX'] at hXj
              have hXj' : X.getD j false = true := by
                simp only [Bool.or_eq_true, decide_eq_true_eq] at hXj
                rcases hXj with h | h
                · exact h
                · omega
              obtain ⟨q, hq, hqp⟩ := hd
              obtain ⟨q', hq', hqp'⟩ := hdj
              have := hafter j ej hj hej (by
                cases hcl : clash e ej with
                | true => rfl
                | false => exact absurd (hqp.trans hqp'.symm) ((clash_spec hcl).2.2.2.2.2 q hq q' hq'))
              rw [hXj'] at this
              cases this
          · have ap : (e.app (stX (effs bb) 0 (fun j => X.getD j false) st)).S[p]? = (stX (effs bb) 0 (fun j => X.getD j false) st).S[p]? := setAll_ne (fun q hq h => hd ⟨q, hq, h⟩) _
            rw [ap]
            refine stX_get (fun j ej hej hdj => ?_) rfl rfl
            rw [Nat.zero_add, hX']
            have : j ≠ i := by
              rintro rfl
              rw [he] at hej
              injection hej with hej
              subst hej
              exact hd hdj
            simp [this]
        have := Rel.congr hr' (T' := (stX (effs bb) 0 (fun j => (X.setIfInBounds i true).getD j false) st).T) fun d v h => (hT d).symm.trans h
        rw [show (⟨(stX (effs bb) 0 (fun j => (X.setIfInBounds i true).getD j false) st).T, setAll (stX (effs bb) 0 (fun j => X.getD j false) st).S e.wS⟩ : St) = stX (effs bb) 0 (fun j => (X.setIfInBounds i true).getD j false) st from by
          rw [show setAll (stX (effs bb) 0 (fun j => X.getD j false) st).S e.wS = (e.app (stX (effs bb) 0 (fun j => X.getD j false) st)).S from rfl, ← hS]] at this
        exact this
      exact ⟨heo, hrT, hrS, hnew⟩
    have hX' : ∀ k, (X.setIfInBounds i true).getD k false = (X.getD k false || decide (k = i)) := by
      intro k
      simp only [Array.getD_eq_getD_getElem?, Array.getElem?_setIfInBounds]
      by_cases hk : i = k
      · subst hk; simp [hiX]
      · simp [hk, Ne.symm hk]
    have next : ∀ b e, (effs b)[i]? = some e → ∀ a w, Rel nt m0 (e.app (stX (effs b) 0 (fun j => X.getD j false) st)) a w → wpAnyIn (FW ro) 0 P .any ops Q' fuel (X.setIfInBounds i true) a w := by
      intro b e he a w hr'
      refine ih _ a w (by simp [hX]) ?_ ?_ ⟨b, (key b e he).2.2.2 a w hr'⟩
      · intro j o hj hXj ee hee hb
        rw [hX'] at hXj ⊢
        simp only [Bool.or_eq_true, decide_eq_true_eq] at hXj ⊢
        rcases hXj with h | h
        · exact .inl (hdc j o hj h ee hee hb)
        · subst h
          have : o = ops[j] := by simpa [hin] using hj.symm
          subst this
          exact .inl (hpre ee hee hb)
      · have e1 : (List.range ops.size).filter (fun j => !(X.setIfInBounds i true).getD j false) = ((List.range ops.size).filter fun j => !X.getD j false).filter fun j => !decide (j = i) := by
          rw [List.filter_filter]
          congr 1
          funext j
          rw [hX']
          cases X.getD j false <;> simp
        have hmem : i ∈ (List.range ops.size).filter fun j => !X.getD j false := List.mem_filter.2 ⟨List.mem_range.2 hin, by simp only [hXi, Bool.not_false]⟩
        have := (List.length_filter_lt_length_iff_exists (l := (List.range ops.size).filter fun j => !X.getD j false) (p := fun j => !decide (j = i))).2 ⟨i, hmem, by simp⟩
        rw [e1]
        omega
    obtain ⟨e, he⟩ : ∃ e, (effs b1)[i]? = some e := ⟨(effs b1)[i]'(by rw [hlen]; exact hin), by simp [hlen, hin]⟩
    obtain ⟨heo, hrT, hrS, _⟩ := key b1 e he
    by_cases hi0 : i = i0
    · subst hi0
      have hmask := masks_spec (fun j => X.getD j false) ops.toList [] (fun j o hj hXj e he hb => hdc j o hj (by simpa using hXj) e he hb) (fun j m h => by simp at h)
      have hXl : ∀ j, X.getD j false = true → j < ops.size → j < i := by
        intro j hj hjs
        rcases Nat.lt_trichotomy j i with h | h | h
        · exact h
        · subst h; rw [hXi] at hj; cases hj
        · obtain ⟨m, hm1, hm2⟩ := hlater j h hjs
          have := hmask j m hm1 hj i hm2
          rw [hXi] at this
          cases this
      have hst : ∀ b, stX (effs b) 0 (fun j => X.getD j false) st = stX (effs b0) 0 (fun j => X.getD j false) st := by
        intro b
        refine stX_agree (by rw [hlen, hlen]) fun j hj => ?_
        rw [Nat.zero_add] at hj
        by_cases hjs : j < ops.size
        · exact hpre b b0 j (hXl j hj hjs)
        · rw [List.getElem?_eq_none (by rw [hlen]; omega), List.getElem?_eq_none (by rw [hlen]; omega)]
      obtain ⟨e0, he0⟩ : ∃ e, (effs b0)[i]? = some e := ⟨(effs b0)[i]'(by rw [hlen]; exact hin), by simp [hlen, hin]⟩
      obtain ⟨heo0, hrT0, hrS0, _⟩ := key b0 e0 he0
      obtain ⟨hg, hnd, hE⟩ := hlocE e0 he0
      rw [hst b1] at hr
      have hl := hE m0 _ _ a w hrT0 hrS0 hr
      rw [heo0] at hl hg hnd
      unfold wpOpIn
      simp only [ho]
      rw [if_pos (by simp [Region.wanted, hg])]
      refine wpIn_fwE (C := fun p : β × Eff => (effs p.1)[i]? = some p.2) (sE := fun p => p.2.app (stX (effs b0) 0 (fun j => X.getD j false) st)) hnd hl fun a' w' hq => ?_
      obtain ⟨⟨b, e'⟩, he', hr'⟩ := hq
      exact next b e' he' a' w' (by rw [hst b]; exact hr')
    · have hl := hloc b1 i e hi0 he m0 _ _ a w hrT hrS hr
      unfold wpOpIn
      simp only [ho]
      rw [heo] at hl
      by_cases hw : Region.wanted ops[i] (yielded ops a.tmps) = true
      · rw [if_pos hw] at hl ⊢
        exact wpIn_fw hl (next b1 e he)
      · rw [if_neg hw] at hl ⊢
        exact ⟨fun _ _ => trivial, next b1 e he _ _ hl⟩
/-- Is each operation behind i ordered behind it? -/
def laterB (i : Nat) (ms : List Nat) : Bool := (List.range ms.length).all fun j => !(decide (i < j)) || (ms.getD j 0).testBit i
theorem AWP.region_anyE {β : Type} {Q : Exit → St → Prop} {id : Nat} {l : List Oper} {st : St} {effs : β → List Eff} (b0 : β) (i0 : Nat) (hm : P.follows .mixedOrders = true) (heff : ∀ b, (effs b).map (·.o) = l) (hpre : ∀ b b' i, i < i0 → (effs b)[i]? = (effs b')[i]?)
    (hloc : ∀ b i e, i ≠ i0 → (effs b)[i]? = some e → LocOK P nt l.toArray e (stX (effs b) 0 (fun j => decide (j < i)) st))
    (hlocE : ∀ e, (effs b0)[i0]? = some e → e.o.guard = none ∧ (∀ c, e.o.op ≠ .defer c) ∧ ∀ m0 T S a w, (∀ t ∈ e.rT, look T t = look (stX (effs b0) 0 (fun j => decide (j < i0)) st).T t) → (∀ p ∈ e.rS, S[p]? = (stX (effs b0) 0 (fun j => decide (j < i0)) st).S[p]?) → Rel nt m0 ⟨T, S⟩ a w → e.o.wp P a w (fun a' w' => ∃ p : β × Eff, (effs p.1)[i0]? = some p.2 ∧ Rel nt m0 (p.2.app ⟨T, S⟩) a' w') (fun _ _ _ => False))
    (hc : ∀ b, compat (effs b) (masks l []) = true) (hlater : ∀ j, i0 < j → j < l.length → ∃ m : Nat, (masks l [])[j]? = some m ∧ m.testBit i0 = true) (hdn : down l 0 = true) (hQ : ∀ b, Q .normal (stX (effs b) 0 (fun _ => true) st)) : AWP ro P nt (.region id l.toArray true) Q st := by
  intro m0 a w hrel
  refine wpIn_region_any hm (any_orderE (m0 := m0) (st := st) (effs := effs) (b0 := b0) (i0 := i0) (by simpa using heff) hpre hloc hlocE (by simpa using hc) (by simpa using hlater) (by simpa using hdn) (fun b a w h => ⟨_, h, hQ b⟩) _ _ a _ (by simp) ?_ ?_ ⟨b0, ?_⟩)
  · intro j o hj hX
    have : j < l.length := (List.getElem?_eq_some_iff.1 hj).1
    simp [this] at hX
  · exact Nat.le_trans (List.length_filter_le _ _) (by simp)
  · have : (fun j => (Array.replicate l.toArray.size false).getD j false) = fun _ => false := by
      funext j
      simp only [Array.getD_eq_getD_getElem?, Array.getElem?_replicate]
      split <;> rfl
    rw [this, stX_none]
    exact hrel.draw _
end
/-! ### the run of such a region -/
section
variable {P : Program} {nt : Nat} {ops : Array Oper}
theorem stX_cons (e0 : Eff) (effs : List Eff) (st : St) (i : Nat) : stX (e0 :: effs) 0 (fun j => decide (j < i + 1)) st = stX effs 0 (fun j => decide (j < i)) (e0.app st) := by
  show stX effs (0 + 1) (fun j => decide (j < i + 1)) (match decide (0 < i + 1) with | true => e0.app st | false => st) = _
  rw [stX_shift, decide_eq_true (Nat.succ_pos i)]
  simp
theorem stX_all (e0 : Eff) (effs : List Eff) (st : St) : stX (e0 :: effs) 0 (fun _ => true) st = stX effs 0 (fun _ => true) (e0.app st) := by
  show stX effs (0 + 1) (fun _ => true) (e0.app st) = _
  rw [stX_shift]
theorem stX_zero (effs : List Eff) (st : St) : stX effs 0 (fun j => decide (j < 0)) st = st := by
  have : (fun j : Nat => decide (j < 0)) = fun _ => false := by funext j; simp
  rw [this, stX_none]
def CallOK (P : Program) (nt : Nat) {β : Type} (effs : β → List Eff) (i0 : Nat) (e : Eff) (st : St) : Prop :=
  e.o.guard = none ∧ (∀ c, e.o.op ≠ .defer c) ∧ ∀ m0 T S a w, (∀ t ∈ e.rT, look T t = look st.T t) → (∀ p ∈ e.rS, S[p]? = st.S[p]?) → Rel nt m0 ⟨T, S⟩ a w → e.o.wp P a w (fun a' w' => ∃ p : β × Eff, (effs p.1)[i0]? = some p.2 ∧ Rel nt m0 (p.2.app ⟨T, S⟩) a' w') (fun _ _ _ => False)
theorem laterB_spec {i : Nat} {ms : List Nat} (h : laterB i ms = true) : ∀ j, i < j → j < ms.length → ∃ m : Nat, ms[j]? = some m ∧ m.testBit i = true := by
  intro j hij hj
  have := List.all_eq_true.1 h j (List.mem_range.2 hj)
  refine ⟨ms[j], by simp [hj], ?_⟩
  simpa [hij, List.getD_eq_getElem?_getD, List.getElem?_eq_getElem hj] using this
/-- A run in which one call has one of many results. -/
def RGoE (P : Program) (nt : Nat) (ops : Array Oper) (l : List Oper) (Q : Exit → St → Prop) (rest : List Oper) (acc : List Eff) (st : St) : Prop :=
  ∃ (β : Type) (b0 : β) (i0 : Nat) (effs : β → List Eff), (∀ b, (effs b).map (·.o) = rest) ∧ (∀ b b' i, i < i0 → (effs b)[i]? = (effs b')[i]?) ∧
    (∀ b i e, i ≠ i0 → (effs b)[i]? = some e → LocOK P nt ops e (stX (effs b) 0 (fun j => decide (j < i)) st)) ∧
    (∀ e, (effs b0)[i0]? = some e → CallOK P nt effs i0 e (stX (effs b0) 0 (fun j => decide (j < i0)) st)) ∧
    (∀ b, compat (acc ++ effs b) (masks l []) = true) ∧ laterB (acc.length + i0) (masks l []) = true ∧ ∀ b, Q .normal (stX (effs b) 0 (fun _ => true) st)
theorem AWP.region_runE {Q : Exit → St → Prop} {id : Nat} {l : List Oper} {st : St} (hm : P.follows .mixedOrders = true) (hdn : down l 0 = true) (h : RGoE P nt l.toArray l Q l [] st) : AWP ro P nt (.region id l.toArray true) Q st := by
  obtain ⟨β, b0, i0, effs, h1, h2, h3, h4, h5, h6, h7⟩ := h
  rw [List.length_nil, Nat.zero_add] at h6
  exact .region_anyE b0 i0 hm h1 h2 h3 h4 (by simpa using h5) (fun j hj hl => laterB_spec h6 j hj (by rw [masks_len]; exact hl)) hdn h7
section
variable {Q : Exit → St → Prop} {l rest : List Oper} {acc : List Eff} {st : St} {T : List (Nat × AV)} {S : List Slot} {xs : List (Operand × AV)} {rS wS : List (Nat × Slot)} {v : AV} {op : Op} {ty : TypeId} {pos : String} {after : Array Edge} {dst : Option Tmp} {f : FuncId} {ats : Array TypeId}
theorem RGoE.step_ {o : Oper} {e : Eff} {st' : St} (h : Run P nt ops [o] st [e] st') (k : RGoE P nt ops l Q rest (acc ++ [e]) st') : RGoE P nt ops l Q (o :: rest) acc st := by
  obtain ⟨h1, h2, h3⟩ := h.spec
  obtain ⟨β, b0, i0, effs, k1, k2, k3, k4, k5, k6, k7⟩ := k
  have hst : st' = e.app st := by rw [h1, stX_all]; rfl
  subst hst
  simp only [List.map_cons, List.map_nil, List.cons.injEq, and_true] at h2
  refine ⟨β, b0, i0 + 1, fun b => e :: effs b, fun b => by simp [k1 b, h2], fun b b' i hi => ?_, fun b i e' hi he => ?_, fun e' he => ?_, fun b => by simpa using k5 b, by rw [show acc.length + (i0 + 1) = (acc ++ [e]).length + i0 by simp; omega]; exact k6, fun b => by rw [stX_all]; exact k7 b⟩
  · cases i with
    | zero => rfl
    | succ i => simpa using k2 b b' i (by omega)
  · cases i with
    | zero =>
      simp at he
      subst he
      rw [stX_zero]
      have := h3 0 e rfl
      rwa [stX_zero] at this
    | succ i =>
      rw [stX_cons]
      exact k3 b i e' (by omega) (by simpa using he)
  · rw [stX_cons]
    obtain ⟨a1, a2, a3⟩ := k4 e' (by simpa using he)
    exact ⟨a1, a2, fun m0 T S a w h1 h2 h3 => by simpa using a3 m0 T S a w h1 h2 h3⟩
theorem RGoE.go (k : RGoE P nt ops l Q rest (acc ++ [⟨⟨dst, op, ty, pos, after, none⟩, tmpsOf xs, rS.map (·.1), v, []⟩]) ⟨putD T dst v, S⟩) (h : Stp none P ⟨dst, op, ty, pos, after, none⟩ T S xs rS v [] := by exact Stp.f0) (hd : dstOk dst nt = true := by rfl) : RGoE P nt ops l Q (⟨dst, op, ty, pos, after, none⟩ :: rest) acc ⟨T, S⟩ := RGoE.step_ (Run.p h hd .nil) k
/-- The call whose result is one of many; one result b0 is known. -/
theorem RGoE.callE {β : Type} {C : β → Prop} {rr vv : β → AV} (b0 : β) (hb0 : C b0) (h : Spec P f (xs.map (·.2)) [] fun r' S' => ∃ b, C b ∧ r' = rr b ∧ S' = []) (hf : ∀ b, Frz (rr b) (vv b)) (hx : Evs T xs) (ht : noTup xs = true) (hd : dstOk dst nt = true) (hl : laterB acc.length (masks l []) = true)
    (k : ∀ b, C b → RGo P nt ops l Q rest (acc ++ [⟨⟨dst, .call ⟨.value (.func f), (xs.map (·.1)).toArray, ats⟩, ty, pos, after, none⟩, tmpsOf xs, [], vv b, []⟩]) ⟨putD T dst (vv b), S⟩) : RGoE P nt ops l Q (⟨dst, .call ⟨.value (.func f), (xs.map (·.1)).toArray, ats⟩, ty, pos, after, none⟩ :: rest) acc ⟨T, S⟩ := by
  have hk : ∀ b : {b // C b}, ∃ effs st', Run P nt ops rest ⟨putD T dst (vv b.1), S⟩ effs st' ∧ compat ((acc ++ [⟨⟨dst, .call ⟨.value (.func f), (xs.map (·.1)).toArray, ats⟩, ty, pos, after, none⟩, tmpsOf xs, [], vv b.1, []⟩]) ++ effs) (masks l []) = true ∧ Q .normal st' := fun b => k b.1 b.2
  refine ⟨{b // C b}, ⟨b0, hb0⟩, 0, fun b => ⟨⟨dst, .call ⟨.value (.func f), (xs.map (·.1)).toArray, ats⟩, ty, pos, after, none⟩, tmpsOf xs, [], vv b.1, []⟩ :: (hk b).choose, fun b => ?_, fun b b' i hi => absurd hi (Nat.not_lt_zero i), fun b i e hi he => ?_, fun e he => ?_, fun b => ?_, hl, fun b => ?_⟩
  · obtain ⟨st', h1, h2, h3⟩ := (hk b).choose_spec
    rw [List.map_cons, h1.spec.2.1]
  · obtain ⟨st', h1, h2, h3⟩ := (hk b).choose_spec
    cases i with
    | zero => exact absurd rfl hi
    | succ i =>
      rw [stX_cons]
      exact h1.spec.2.2 i e (by simpa using he)
  · simp at he
    subst he
    refine ⟨rfl, by simp, fun m0 T' S' a w hT hS hr => ?_⟩
    rw [stX_zero] at hT
    obtain ⟨m, N, Z, rfl, h2, h3, h4⟩ := hr
    have h2' : Z.map (·.1) = S' := h2
    have h4' : TRel m0 m nt T' a := h4
    have hv : VTs m (xs.map (·.2)) (((xs.map (·.1)).toArray).map a.eval).toList [] := by
      have := vts_of (noTup_spec ht) fun q hq => h4'.ev (evs_local (st := ⟨T, S⟩) hx hT q hq)
      simpa [Function.comp_def] using this
    have hS0 : ∀ q ∈ ([] : List (Nat × Slot)), S'[q.1]? = some q.2 := fun _ hq => by cases hq
    have hc := callG_runE (dst := dst) (S := S') (rS := []) (So := fun _ => []) (nw := fun _ => []) (wE := fun _ => []) (gs := []) h (fun b => .fz) (fun _ => rfl) rfl (fun _ => rfl) (fun _ => rfl) .nil hS0 (dstOk_lt hd) h2' h3 h4' hv
    have hw := wp_call (ty := ty) (pos := pos) (after := after) (g := none) (dst := dst) (ats := ats) (K := fun a' w' => ∃ b, C b ∧ Rel nt m0 ⟨putD T' dst (vv b), S'⟩ a' w') (fun _ => rfl) h.fn hc
    refine Oper.wp_mono ?_ hw
    rintro a' w' ⟨b, hb, hrel⟩
    exact ⟨(⟨b, hb⟩, ⟨⟨dst, .call ⟨.value (.func f), (xs.map (·.1)).toArray, ats⟩, ty, pos, after, none⟩, tmpsOf xs, [], vv b, []⟩), rfl, hrel⟩
  · obtain ⟨st', h1, h2, h3⟩ := (hk b).choose_spec
    simpa using h2
  · obtain ⟨st', h1, h2, h3⟩ := (hk b).choose_spec
    rw [stX_all]
    have := h1.spec.1
    rw [this] at h3
    exact h3
theorem RGoE.e2 {x0 x1 : Operand} {v0 v1 : AV} {β : Type} {C : β → Prop} {rr vv : β → AV} (b0 : β) (hb0 : C b0) (h : Spec P f [v0, v1] [] fun r' S' => ∃ b, C b ∧ r' = rr b ∧ S' = []) [hf : ∀ b, Frz (rr b) (vv b)]
    (k : ∀ b, C b → RGo P nt ops l Q rest (acc ++ [⟨⟨dst, .call ⟨.value (.func f), #[x0, x1], ats⟩, ty, pos, after, none⟩, tmpsOf [(x0, v0), (x1, v1)], [], vv b, []⟩]) ⟨putD T dst (vv b), S⟩) (hl : laterB acc.length (masks l []) = true := by kernel_rfl) (h0 : Rd none T x0 v0 := by rfl) (h1 : Rd none T x1 v1 := by rfl) (ht : noTup [(x0, v0), (x1, v1)] = true := by rfl) (hd : dstOk dst nt = true := by rfl) :
    RGoE P nt ops l Q (⟨dst, .call ⟨.value (.func f), #[x0, x1], ats⟩, ty, pos, after, none⟩ :: rest) acc ⟨T, S⟩ := RGoE.callE (xs := [(x0, v0), (x1, v1)]) b0 hb0 h hf (.cons h0 (.cons h1 .nil)) ht hd hl k
end
end
end Go.Proofs.YtkoehhpfjpdkcaaGreat

namespace Go.Proofs.YtkoehhpfjpdkcaaGreat
set_option linter.unusedVariables false
variable {ro : Option Nat}
section
variable {P : Program} {ty t t' te : TypeId} {pos : String} {after : Array Edge} {g : Option (Nat × Bool)} {dst : Option Tmp} {x y z : Operand} {l : List AV} {sz : Nat} {c : Option (List Bool)} {T : List (Nat × AV)} {S : List Slot} {i j : Int} {k k2 : IntKind}
theorem OpT.slice_lst_2 {lo hi : Nat} {qi qj : Int} (he : tElem P t = some te) (hsz : tSz P te = some sz) (hq : qi = (lo : Int)) (hq2 : qj = (hi : Int)) (hlh : lo ≤ hi) (hh : hi ≤ l.length) : OpT P ⟨dst, .slice t x (some y) (some z) none, ty, pos, after, g⟩ [(x, .lst false t' sz l), (y, .prim (.int k qi)), (z, .prim (.int k2 qj))] [] (.lst false t' sz ((l.take hi).drop lo)) [] :=
  .pure_ fun m a hx hS => by
    obtain ⟨_, A, c, e1, h3, hw, h4⟩ := hx (x, .lst false t' sz l) (by simp)
    have hy := (hx (y, .prim (.int k qi)) (by simp)).prim
    have hz := (hx (z, .prim (.int k2 qj)) (by simp)).prim
    injection e1 with e1
    simp only at e1 hy hz
    subst hq
    subst hq2
    have hr := run_slice (P := P) (w := m.w) he hsz (A := A) (len := l.length) (cap := c) (lo := lo) (hi := hi) (vl := some (.int k lo)) (vh := some (.int k2 hi)) (fun u hu => ⟨k, by injection hu with hu; exact hu.symm⟩) (by simp) (fun u hu => ⟨k2, by injection hu with hu; exact hu.symm⟩) (by simp) hlh (by omega)
    have hl : ((l.take hi).drop lo).length = hi - lo := by rw [List.length_drop, List.length_take]; omega
    refine ⟨_, by simp only [execOp, Option.map_none, Option.map_some, e1, hy, hz, Sem.run_bind, hr, Result.andThen_ok]; rfl, rfl, _, c - lo, by rw [hl], by rw [hl]; omega, fun e he => hw e (List.mem_of_mem_take (List.mem_of_mem_drop he)), fun h0 => ?_⟩
    rw [hl] at h0 ⊢
    obtain ⟨b, off, arr, tt, r, rfl, hF, hb, hc⟩ := h4 (by omega)
    obtain ⟨p1, p2, e2, h5, _⟩ := VCs.take hw hc hh
    obtain ⟨rfl, rfl⟩ : p1 = [] ∧ p2 = [] := by simpa using e2.symm
    obtain ⟨p3, p4, e3, _, h6⟩ := VCs.take (l := l.take hi) (fun e he => hw e (List.mem_of_mem_take he)) h5 (k := lo) (by rw [List.length_take]; omega)
    obtain ⟨rfl, rfl⟩ : p3 = [] ∧ p4 = [] := by simpa using e3.symm
    rw [if_neg (by omega)]
    refine ⟨b, off + lo * sz, arr, tt, r, by rw [Option.map_some, pt_add], hF, hb, ?_⟩
    rw [List.take_take, Nat.min_eq_left (Nat.mul_le_mul_right _ hh)] at h6
    have e : ((arr.toList.drop off).take (hi * sz)).drop (lo * sz) = (arr.toList.drop (off + lo * sz)).take ((hi - lo) * sz) := by rw [List.drop_take, List.drop_drop, ← Nat.sub_mul]
    rw [e] at h6
    exact h6
theorem W.lohL (a b : Nat) [TEl P t te] [TSize P te sz] (hx : Rd c T x (.lst false t' sz l)) (hy : Rd c T y (.prim (.int k i))) (hz : Rd c T z (.prim (.int k2 j))) (hq : i = (a : Int)) (hq2 : j = (b : Int)) (hab : a ≤ b) (hb : b ≤ l.length) :
    Stp c P ⟨dst, .slice t x (some y) (some z) none, ty, pos, after, g⟩ T S [(x, .lst false t' sz l), (y, .prim (.int k i)), (z, .prim (.int k2 j))] [] (.lst false t' sz ((l.take b).drop a)) [] := ⟨.slice_lst_2 TEl.h TSize.h hq hq2 hab hb, .cons hx (.cons hy (.cons hz .nil)), .nil⟩
end
/-! ### equality -/
theorem eq_twoF {P : Program} {t : TypeId} (n : Nat) (h1 : P.underlying t = some (.struct (P.fieldsOf t))) (h2 : P.stoodInHeld t = false) (h : two2 P t = true) (a b c d : Int) (w : World) : (Op.equalIn (n + 2) t (.agg #[.int .i64 a, .int .i64 b]) (.agg #[.int .i64 c, .int .i64 d])).run P w = .ok (decide (a = c) && decide (b = d)) w := by
  rw [run_equalIn_agg w (n + 1) t _ _ h1 h2]
  unfold two2 at h
  split at h
  · rename_i f1 f2 hf
    simp only [Bool.and_eq_true, bne_iff_ne, ne_eq, beq_iff_eq] at h
    obtain ⟨⟨⟨⟨n1, n2⟩, o1⟩, o2⟩, hu⟩ := h
    split at hu
    · rename_i k1 k2 u1 u2
      have p1 : ∀ x y : Int, (part f1.type #[.int .i64 x, .int .i64 y] f1.offset).run P w = .ok (.int .i64 x) w := fun x y => run_part_int u1 (by rw [o1]; rfl) w
      have p2 : ∀ x y : Int, (part f2.type #[.int .i64 x, .int .i64 y] f2.offset).run P w = .ok (.int .i64 y) w := fun x y => run_part_int u2 (by rw [o2]; rfl) w
      have q1 : ∀ a c : Int, (Op.equalIn (n + 1) f1.type (.int .i64 a) (.int .i64 c)).run P w = .ok (a == c) w := fun a c => run_equalIn_int (P := P) w n f1.type .i64 k1 a c u1
      have q2 : ∀ a c : Int, (Op.equalIn (n + 1) f2.type (.int .i64 a) (.int .i64 c)).run P w = .ok (a == c) w := fun a c => run_equalIn_int (P := P) w n f2.type .i64 k2 a c u2
      rw [hf]
      by_cases e1 : a = c
      · by_cases e2 : b = d
        · simp [Op.eqFields, n1, n2, Sem.run_bind, p1, p2, q1, q2, e1, e2, Sem.run_pure, Sem.run_ite, Result.andThen_ok]
        · simp [Op.eqFields, n1, n2, Sem.run_bind, p1, p2, q1, q2, e1, e2, Sem.run_pure, Sem.run_ite, Result.andThen_ok]
      · simp [Op.eqFields, n1, Sem.run_bind, p1, q1, e1, Sem.run_pure, Sem.run_ite, Result.andThen_ok]
    · cases hu
  · cases h
/-- A struct of a number, a struct of two numbers and a number. -/
def ev3 (P : Program) (t te : TypeId) : Bool := match (P.fieldsOf t).toList with
  | [f1, f2, f3] => f1.name != "_" && f2.name != "_" && f3.name != "_" && f1.offset == 0 && f2.offset == 1 && f3.offset == 3 && Nat.beq f2.type te && (match P.underlying f1.type, P.underlying f3.type with | some (.int _), some (.int _) => true | _, _ => false)
  | _ => false
end Go.Proofs.YtkoehhpfjpdkcaaGreat

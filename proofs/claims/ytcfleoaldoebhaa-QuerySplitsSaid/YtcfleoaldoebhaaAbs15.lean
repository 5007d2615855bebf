/-
  A row is frozen inside another row's values. No conditions.
-/
import Derived.Test.YtcfleoaldoebhaaAbs14
namespace Go.Proofs.Ytcfleoaldoebhaa
set_option linter.unusedVariables false
variable {ro : Option Nat}
mutual
inductive Ic (B : AV → AV → Prop) : AV → AV → Prop
  | same {a : AV} : Ic B a a
  | base {a b : AV} (h : B a b) : Ic B a b
  | agg {as bs : List AV} (h : Ics B as bs) : Ic B (.agg as) (.agg bs)
inductive Ics (B : AV → AV → Prop) : List AV → List AV → Prop
  | nil : Ics B [] []
  | cons {a b : AV} {as bs : List AV} (h : Ic B a b) (k : Ics B as bs) : Ics B (a :: as) (b :: bs)
end
/-- A slice of the row reads as a list. -/
inductive IceB (X : Nat) (t : TypeId) (sz : Nat) (l : List AV) : AV → AV → Prop
  | sl {off n : Nat} (h : off + n ≤ l.length) : IceB X t sz l (.sl X off n) (.lst false t sz (AV.frzs ((l.drop off).take n)))
/-- A nil slice is the empty slice of a new row. -/
inductive AdB (X : Nat) : AV → AV → Prop
  | nil : AdB X (.prim (.slice none 0 0)) (.sl X 0 0)
section
variable {X : Nat} {t : TypeId} {sz : Nat} {l : List AV} {m m' : Mem} {B : AV → AV → Prop}
def Wd1 (B : AV → AV → Prop) : Prop := ∀ a b, B a b → b.width = a.width
def Vc1 (B : AV → AV → Prop) (m m' : Mem) : Prop := ∀ a b, B a b → ∀ c bs, VC m a c bs → VC m' b c bs
theorem IceB.wd1 : Wd1 (IceB X t sz l) := fun a b h => by cases h; rfl
theorem AdB.wd1 : Wd1 (AdB X) := fun a b h => by cases h; rfl
theorem IceB.vc1 (hv : ∀ off n c, off + n ≤ l.length → VC m (.sl X off n) c [] → VC m' (.lst false t sz (AV.frzs ((l.drop off).take n))) c []) : Vc1 (IceB X t sz l) m m' := fun a b h c bs k => by
  cases h with
  | sl h =>
    obtain rfl := k.1
    exact hv _ _ _ h k
theorem AdB.vc1 (hv : VC m' (.sl X 0 0) [.slice none 0 0] []) : Vc1 (AdB X) m m' := fun a b h c bs k => by
  cases h with
  | nil =>
    obtain ⟨⟨rfl, _⟩, rfl⟩ := k
    exact hv
mutual
theorem Ic.width (hB : Wd1 B) : {a b : AV} → Ic B a b → b.width = a.width
  | _, _, .same => rfl
  | _, _, .base h => hB _ _ h
  | _, _, .agg h => Ics.widths hB h
theorem Ics.widths (hB : Wd1 B) : {a b : List AV} → Ics B a b → AV.widths b = AV.widths a
  | _, _, .nil => rfl
  | _, _, .cons h k => by simp only [AV.widths, Ic.width hB h, Ics.widths hB k]
end
mutual
theorem Ic.vc (hle : m.Le m') (hB : Vc1 B m m') (hw : m'.w = m.w) : {a b : AV} → Ic B a b → {c : List Value} → {bs : List Nat} → VC m a c bs → VC m' b c bs
  | a, _, .same, _, _, k => VC.mono hle a (fun _ _ => by rw [hw]) k
  | _, _, .base h, _, _, k => hB _ _ h _ _ k
  | _, _, .agg h, _, _, k => Ics.vcs hle hB hw h k
theorem Ics.vcs (hle : m.Le m') (hB : Vc1 B m m') (hw : m'.w = m.w) : {a b : List AV} → Ics B a b → {c : List Value} → {bs : List Nat} → VCs m a c bs → VCs m' b c bs
  | _, _, .nil, _, _, k => k
  | _, _, .cons h k, _, _, ⟨c1, c2, b1, b2, e1, e2, k1, k2⟩ => ⟨c1, c2, b1, b2, e1, e2, Ic.vc hle hB hw h k1, Ics.vcs hle hB hw k k2⟩
end
theorem Ics.len {a b : List AV} (h : Ics B a b) : b.length = a.length := by
  induction a generalizing b with
  | nil => cases h; rfl
  | cons x a ih => cases h with | cons h k => simp [ih k]
theorem Ics.wd (hB : Wd1 B) {a b : List AV} {n : Nat} (h : Ics B a b) (hw : ∀ e ∈ a, e.width = n) : ∀ e ∈ b, e.width = n := by
  induction a generalizing b with
  | nil => cases h; intro e he; cases he
  | cons x a ih =>
    cases h with
    | cons h k =>
      intro e he
      rcases List.mem_cons.1 he with rfl | he
      · rw [h.width hB]; exact hw x (by simp)
      · exact ih k (fun e he => hw e (by simp [he])) e he
theorem Ics.orel {Y : Nat} {t2 : TypeId} {sz2 : Nat} {l2 l2' : List AV} {bs : List Nat} (hI : Ics B l2 l2') (hle : m.Le m') (hμ : ∀ L, m.μ Y = some L → m'.μ Y = some L) (hBw : Wd1 B) (hB : Vc1 B m m') (hw : m'.w = m.w) (h : ORel m Y (.row t2 sz2 l2) bs) : ORel m' Y (.row t2 sz2 l2') bs := by
  obtain ⟨hU, L, h1, h2, h3⟩ := h
  refine ⟨hle.U _ hU, L, hμ L h1, h2, ?_⟩
  rcases h3 with ⟨h4, rfl, h5⟩ | ⟨h4, arr, bs', h5, h6, h7, h8, h9, h10, h11⟩
  · cases hI; exact .inl ⟨h4, rfl, h5⟩
  · refine .inr ⟨h4, arr, bs', h5, by rw [hw]; exact h6, h7, by rw [hI.len]; exact h8, h9, hI.wd hBw h10, ?_⟩
    rw [hI.len]
    exact Ics.vcs hle hB hw hI h11
theorem Good.reval {m0 : Mem} {N : Nat} {ex bs : List Nat} {A R : Zs} {Y : Nat} {o o' : AO} (G : Good m0 m N (A ++ ((Y, o), bs) :: R) ex) (h : ORel m Y o' bs) : Good m0 m N (A ++ ((Y, o'), bs) :: R) ex := by
  have e1 : Zs.own (A ++ ((Y, o'), bs) :: R) = Zs.own (A ++ ((Y, o), bs) :: R) := by simp [Zs.own]
  have e2 : Zs.keys (A ++ ((Y, o'), bs) :: R) = Zs.keys (A ++ ((Y, o), bs) :: R) := by simp [Zs.keys]
  refine ⟨fun z hz => ?_, by rw [e1]; exact G.own, by rw [e1]; exact G.blk, G.frz, by rw [e2]; exact G.keys, by rw [e2]; exact G.keyN, G.usedN, G.le, G.os, G.tape, G.output, G.size⟩
  rcases List.mem_append.1 hz with hz | hz
  · exact G.obj z (by simp [hz])
  · rcases List.mem_cons.1 hz with rfl | hz
    · exact h
    · exact G.obj z (by simp [hz])
/-- A row is frozen, and the values of another row that refer to it read as lists. -/
theorem St.iceIn {nt : Nat} {st : St} {p q Y : Nat} {t2 : TypeId} {sz2 : Nat} {l2 l2' : List AV} (hpq : p ≠ q) (hS : At st.S p (X, .row t sz l)) (hq : At st.S q (Y, .row t2 sz2 l2)) (hI : Ics (IceB X t sz l) l2 l2') : St.To nt st fun st' => st' = ⟨st.T, (st.S.set p (X, .used)).set q (Y, .row t2 sz2 l2')⟩ := by
  rintro m0 a w ⟨m, N, Z, rfl, h2, h3, h4⟩
  obtain ⟨bs, hz⟩ := hS.z h2
  obtain ⟨bs2, hz2⟩ := hq.z h2
  obtain ⟨R, hp1, hp2⟩ := perm_get2 hpq hz hz2
  have G0 := h3.perm hp1
  obtain ⟨m', hw, G', hle, hv, _⟩ := G0.iced
  have hY : ORel m Y (.row t2 sz2 l2) bs2 := G0.obj ((Y, .row t2 sz2 l2), bs2) (by simp)
  have hY' : ORel m' Y (.row t2 sz2 l2) bs2 := G'.obj ((Y, .row t2 sz2 l2), bs2) (by simp)
  have hμ : ∀ L, m.μ Y = some L → m'.μ Y = some L := by
    intro L hL
    obtain ⟨_, L', h5, _⟩ := hY'
    have := hle.μ Y L' hY.1 h5
    rw [hL] at this
    injection this with this
    rw [this]
    exact h5
  have G2 := Good.reval (A := [((X, AO.used), [])]) G' (hI.orel hle hμ IceB.wd1 (IceB.vc1 hv) hw hY)
  exact ⟨⟨st.T, (st.S.set p (X, .used)).set q (Y, .row t2 sz2 l2')⟩, ⟨m', N, (Z.set p ((X, .used), [])).set q ((Y, .row t2 sz2 l2'), bs2), hw, by rw [List.map_set, List.map_set, h2], G2.perm (hp2 _ _).symm, h4.mono hle⟩, rfl⟩
theorem St.adoptIn {nt : Nat} {st : St} {q Y : Nat} {t2 : TypeId} {sz2 : Nat} {l2 : List AV} {l2' : Nat → List AV} (t : TypeId) (sz : Nat) (hq : At st.S q (Y, .row t2 sz2 l2)) (hI : ∀ X, Ics (AdB X) l2 (l2' X)) : St.To nt st fun st' => ∃ X, st' = ⟨st.T, (X, .row t sz []) :: st.S.set q (Y, .row t2 sz2 (l2' X))⟩ := by
  rintro m0 a w ⟨m, N, Z, rfl, h2, h3, h4⟩
  obtain ⟨bs2, hz2⟩ := hq.z h2
  obtain ⟨R, hp1, hp2⟩ := perm_get hz2
  have G0 := h3.perm hp1
  obtain ⟨m', hw, G', hle, hv⟩ := G0.adopt t sz
  have hY : ORel m Y (.row t2 sz2 l2) bs2 := G0.obj ((Y, .row t2 sz2 l2), bs2) (by simp)
  have hY' : ORel m' Y (.row t2 sz2 l2) bs2 := G'.obj ((Y, .row t2 sz2 l2), bs2) (by simp)
  have hμ : ∀ L, m.μ Y = some L → m'.μ Y = some L := by
    intro L hL
    obtain ⟨_, L', h5, _⟩ := hY'
    have := hle.μ Y L' hY.1 h5
    rw [hL] at this
    injection this with this
    rw [this]
    exact h5
  have G2 := Good.reval (A := [((N, AO.row t sz []), [])]) G' ((hI N).orel hle hμ AdB.wd1 (AdB.vc1 hv) hw hY)
  exact ⟨⟨st.T, (N, .row t sz []) :: st.S.set q (Y, .row t2 sz2 (l2' N))⟩, ⟨m', N + 1, ((N, .row t sz []), []) :: Z.set q ((Y, .row t2 sz2 (l2' N)), bs2), hw, by rw [List.map_cons, List.map_set, h2], G2.perm ((hp2 _).symm.cons _), h4.mono hle⟩, N, rfl⟩
theorem AWP.adoptIn {P : Program} {nt : Nat} {c : Code} {Q : Exit → St → Prop} {T : List (Nat × AV)} {S : List Slot} {q Y : Nat} {t2 : TypeId} {sz2 : Nat} {l2 : List AV} {l2' : Nat → List AV} (t : TypeId) (sz : Nat) (hq : At S q (Y, .row t2 sz2 l2)) (hI : ∀ X, Ics (AdB X) l2 (l2' X)) (k : ∀ X, AWP ro P nt c Q ⟨T, (X, .row t sz []) :: S.set q (Y, .row t2 sz2 (l2' X))⟩) : AWP ro P nt c Q ⟨T, S⟩ :=
  .ghost (St.adoptIn (st := ⟨T, S⟩) t sz hq hI) fun st' ⟨X, e⟩ => by subst e; exact k X
theorem AWP.iceIn {P : Program} {nt : Nat} {c : Code} {Q : Exit → St → Prop} {T : List (Nat × AV)} {S : List Slot} {p q Y : Nat} {t2 : TypeId} {sz2 : Nat} {l2 l2' : List AV} (hS : At S p (X, .row t sz l)) (hq : At S q (Y, .row t2 sz2 l2)) (hpq : Nat.beq p q = false) (hI : Ics (IceB X t sz l) l2 l2') (k : AWP ro P nt c Q ⟨T, (S.set p (X, .used)).set q (Y, .row t2 sz2 l2')⟩) : AWP ro P nt c Q ⟨T, S⟩ :=
  .ghost (St.iceIn (st := ⟨T, S⟩) (fun e => by subst e; simp at hpq) hS hq hI) fun st' e => by subst e; exact k
theorem AOps.iceIn {P : Program} {nt : Nat} {ops : Array Oper} {rest : List Oper} {Q : Exit → St → Prop} {T : List (Nat × AV)} {S : List Slot} {p q Y : Nat} {t2 : TypeId} {sz2 : Nat} {l2 l2' : List AV} (hS : At S p (X, .row t sz l)) (hq : At S q (Y, .row t2 sz2 l2)) (hpq : Nat.beq p q = false) (hI : Ics (IceB X t sz l) l2 l2') (k : AOps ro P nt ops Q rest ⟨T, (S.set p (X, .used)).set q (Y, .row t2 sz2 l2')⟩) : AOps ro P nt ops Q rest ⟨T, S⟩ :=
  .ghost (St.iceIn (st := ⟨T, S⟩) (fun e => by subst e; simp at hpq) hS hq hI) fun st' e => by subst e; exact k
theorem AOps.ice {P : Program} {nt : Nat} {ops : Array Oper} {rest : List Oper} {Q : Exit → St → Prop} {T : List (Nat × AV)} {S : List Slot} {p d n : Nat} (hd : look T d = some (.sl X 0 n)) (hS : At S p (X, .row t sz l)) (hn : n = l.length) (k : AOps ro P nt ops Q rest ⟨(d, .lst false t sz (AV.frzs l)) :: T, S.set p (X, .used)⟩) : AOps ro P nt ops Q rest ⟨T, S⟩ :=
  .ghost (St.ice (st := ⟨T, S⟩) hd hS hn) fun st' e => by subst e; exact k
theorem AWP.ice {P : Program} {nt : Nat} {c : Code} {Q : Exit → St → Prop} {T : List (Nat × AV)} {S : List Slot} {p d n : Nat} (hd : look T d = some (.sl X 0 n)) (hS : At S p (X, .row t sz l)) (hn : n = l.length) (k : AWP ro P nt c Q ⟨(d, .lst false t sz (AV.frzs l)) :: T, S.set p (X, .used)⟩) : AWP ro P nt c Q ⟨T, S⟩ :=
  .ghost (St.ice (st := ⟨T, S⟩) hd hS hn) fun st' e => by subst e; exact k
theorem AOps.adopt {P : Program} {nt : Nat} {ops : Array Oper} {rest : List Oper} {Q : Exit → St → Prop} {T : List (Nat × AV)} {S : List Slot} {d : Nat} (t : TypeId) (sz : Nat) (hd : look T d = some (.prim (.slice none 0 0))) (k : ∀ X, AOps ro P nt ops Q rest ⟨(d, .sl X 0 0) :: T, (X, .row t sz []) :: S⟩) : AOps ro P nt ops Q rest ⟨T, S⟩ :=
  .ghost (St.adopt (st := ⟨T, S⟩) t sz hd) fun st' ⟨X, e⟩ => by subst e; exact k X
theorem AWP.adopt {P : Program} {nt : Nat} {c : Code} {Q : Exit → St → Prop} {T : List (Nat × AV)} {S : List Slot} {d : Nat} (t : TypeId) (sz : Nat) (hd : look T d = some (.prim (.slice none 0 0))) (k : ∀ X, AWP ro P nt c Q ⟨(d, .sl X 0 0) :: T, (X, .row t sz []) :: S⟩) : AWP ro P nt c Q ⟨T, S⟩ :=
  .ghost (St.adopt (st := ⟨T, S⟩) t sz hd) fun st' ⟨X, e⟩ => by subst e; exact k X
end
end Go.Proofs.Ytcfleoaldoebhaa

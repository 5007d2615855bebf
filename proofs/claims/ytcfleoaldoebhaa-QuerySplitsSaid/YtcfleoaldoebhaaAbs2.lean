/-
  Abstract states: what temporaries and objects hold; how a step that turns a few objects keeps the rest. No conditions.
-/
import Derived.Test.YtcfleoaldoebhaaAbs1
import Derived.Orders
namespace Go.Proofs.Ytcfleoaldoebhaa
set_option linter.unusedVariables false
open Go.RowKit

/-- What is at a stamp: a row of values (a variable is a row of one); gone: a stamp kept for later; used: nothing any more. -/
inductive AO where
  | gone
  | used
  | row (t : TypeId) (sz : Nat) (l : List AV)
  | raw (b : Nat) (o : Obj)
  | tv (K : AV → Value → Prop)

def ORel (m : Mem) (x : Nat) : AO → List Nat → Prop
  | .gone, bs => bs = [] ∧ ¬ m.U x
  | .used, bs => bs = [] ∧ m.U x
  | .raw b o, bs => bs = [b] ∧ m.U x ∧ m.w.heap[b]? = some o
  | .tv K, bs => bs = [] ∧ m.U x ∧ ∀ v u, K v u → VV m v u []
  | .row t sz l, bs => m.U x ∧ ∃ L, m.μ x = some L ∧ L.sz = sz ∧ ((L.isNil = true ∧ l = [] ∧ bs = []) ∨
      (L.isNil = false ∧ ∃ arr bs', bs = L.blk :: bs' ∧ m.w.heap[L.blk]? = some (.cells arr t (0, 0)) ∧ arr.size = L.cap * sz ∧ l.length ≤ L.cap ∧ L.cap ≤ maxLen ∧ (∀ e ∈ l, e.width = sz) ∧
        VCs m l (arr.toList.take (l.length * sz)) bs'))

abbrev Slot := Nat × AO
abbrev Zs := List (Slot × List Nat)
def Zs.own (Z : Zs) : List Nat := Z.flatMap (·.2)
def Zs.keys (Z : Zs) : List Nat := Z.map (·.1.1)

theorem ORel.monoC {m m' : Mem} (h : m.LeC m') {x : Nat} {o : AO} {bs : List Nat} (hg : o = .gone → ¬ m'.U x) (hμ : ∀ L, m.μ x = some L → m'.μ x = some L) (hb : ∀ b ∈ bs, m'.w.heap[b]? = m.w.heap[b]?) (k : ORel m x o bs) : ORel m' x o bs := by
  cases o with
  | gone => exact ⟨k.1, hg rfl⟩
  | used => exact ⟨k.1, h.U x k.2⟩
  | raw b o => exact ⟨k.1, h.U x k.2.1, (hb _ (by simp [k.1])).trans k.2.2⟩
  | tv K => exact ⟨k.1, h.U x k.2.1, fun v u hK => VV.monoC h (by simp) (k.2.2 v u hK)⟩
  | row t sz l =>
    obtain ⟨hu, L, h1, h2, h3⟩ := k
    refine ⟨h.U x hu, L, hμ L h1, h2, ?_⟩
    rcases h3 with h3 | ⟨h3, arr, bs', e1, e2, e3, e4, e5, e6, e7⟩
    · exact .inl h3
    · exact .inr ⟨h3, arr, bs', e1, (hb _ (by simp [e1])).trans e2, e3, e4, e5, e6, VCs.monoC h l (fun b q => hb b (by simp [e1, q])) e7⟩

theorem ORel.mono {m m' : Mem} (h : m.Le m') {x : Nat} {o : AO} {bs : List Nat} (hg : o = .gone → ¬ m'.U x) (hμ : ∀ L, m.μ x = some L → m'.μ x = some L) (hb : ∀ b ∈ bs, m'.w.heap[b]? = m.w.heap[b]?) (k : ORel m x o bs) : ORel m' x o bs := ORel.monoC h.c hg hμ hb k

structure Good (m0 m : Mem) (N : Nat) (Z : Zs) (extra : List Nat) : Prop where
  obj : ∀ z ∈ Z, ORel m z.1.1 z.1.2 z.2
  own : (Z.own ++ extra).Nodup
  blk : ∀ b ∈ Z.own ++ extra, b < m.w.heap.size ∧ ¬ m.F b
  frz : ∀ b, m.F b → b < m.w.heap.size
  keys : Z.keys.Nodup
  keyN : ∀ x ∈ Z.keys, x < N
  usedN : ∀ x, m.U x → x < N
  le : m0.Le m
  os : m.w.os = m0.w.os
  tape : m.w.tape = m0.w.tape
  output : m.w.output = m0.w.output
  size : m0.w.heap.size ≤ m.w.heap.size

theorem Zs.own_perm {Z Z' : Zs} (h : Z.Perm Z') : Z.own.Perm Z'.own := h.flatMap_right _
theorem Good.perm {m0 m : Mem} {N : Nat} {Z Z' : Zs} {extra : List Nat} (G : Good m0 m N Z extra) (h : Z.Perm Z') : Good m0 m N Z' extra :=
  ⟨fun z hz => G.obj z (h.mem_iff.2 hz), ((Zs.own_perm h).append_right extra).nodup_iff.1 G.own, fun b hb => G.blk b (((Zs.own_perm h).append_right extra).mem_iff.2 hb), G.frz, (h.map _).nodup_iff.1 G.keys, fun x hx => G.keyN x ((h.map _).mem_iff.2 hx), G.usedN, G.le, G.os, G.tape, G.output, G.size⟩
theorem own_append (Z R : Zs) : Zs.own (Z ++ R) = Z.own ++ R.own := List.flatMap_append ..
theorem keys_append (Z R : Zs) : Zs.keys (Z ++ R) = Z.keys ++ R.keys := List.map_append ..

/-- A step that turns the objects zs into zs', and leaves the objects R alone. -/
theorem Good.swap {m0 m m' : Mem} {N N' : Nat} {zs zs' R : Zs} {ex ex' : List Nat} (G : Good m0 m N (zs ++ R) ex) (hle : m.Le m') (hN : N ≤ N')
    (hμ : ∀ x, x ∉ zs.keys → x < N → m'.μ x = m.μ x)
    (hsame : ∀ b, b < m.w.heap.size → b ∉ zs.own → b ∉ ex → m'.w.heap[b]? = m.w.heap[b]?)
    (hobj : ∀ z ∈ zs', ORel m' z.1.1 z.1.2 z.2)
    (hown : (zs'.own ++ ex').Nodup) (hblk : ∀ b ∈ zs'.own ++ ex', b < m'.w.heap.size ∧ ¬ m'.F b ∧ (b ∈ zs.own ∨ b ∈ ex ∨ m.w.heap.size ≤ b))
    (hfrz : ∀ b, m'.F b → b < m'.w.heap.size ∧ (m.F b ∨ b ∈ zs.own ∨ b ∈ ex ∨ m.w.heap.size ≤ b))
    (hkeys : zs'.keys.Nodup) (hkeyN : ∀ x ∈ zs'.keys, x < N' ∧ (x ∈ zs.keys ∨ N ≤ x)) (hU : ∀ x, m'.U x → x < N' ∧ (m.U x ∨ x ∈ zs.keys ∨ N ≤ x))
    (hos : m'.w.os = m.w.os) (htape : m'.w.tape = m.w.tape) (hout : m'.w.output = m.w.output) (hsize : m.w.heap.size ≤ m'.w.heap.size) : Good m0 m' N' (zs' ++ R) ex' := by
  have own := G.own
  have keys := G.keys
  rw [own_append] at own
  rw [keys_append] at keys
  have dR : ∀ b ∈ R.own, b ∉ zs.own ∧ b ∉ ex := by
    intro b hb
    rw [List.append_assoc, List.nodup_append] at own
    refine ⟨fun h => own.2.2 b h b (by simp [hb]) rfl, fun h => ?_⟩
    have := own.2.1
    rw [List.nodup_append] at this
    exact this.2.2 b hb b h rfl
  have kR : ∀ x ∈ R.keys, x ∉ zs.keys := fun x hx h => (List.nodup_append.1 keys).2.2 x h x hx rfl
  have lR : ∀ b ∈ R.own, b < m.w.heap.size ∧ ¬ m.F b := fun b hb => G.blk b (by rw [own_append]; simp [hb])
  have nR : ∀ x ∈ R.keys, x < N := fun x hx => G.keyN x (by rw [keys_append]; simp [hx])
  refine ⟨?_, ?_, ?_, fun b hb => (hfrz b hb).1, ?_, ?_, fun x hx => (hU x hx).1, G.le.trans hle, hos.trans G.os, htape.trans G.tape, hout.trans G.output, Nat.le_trans G.size hsize⟩
  · intro z hz
    rcases List.mem_append.1 hz with hz | hz
    · exact hobj z hz
    · have hk : z.1.1 ∈ R.keys := List.mem_map.2 ⟨z, hz, rfl⟩
      have hb : ∀ b ∈ z.2, b ∈ R.own := fun b hb => List.mem_flatMap.2 ⟨z, hz, hb⟩
      have old := G.obj z (List.mem_append.2 (.inr hz))
      refine ORel.mono hle ?_ ?_ ?_ old
      · intro hg hu
        rw [hg] at old
        rcases (hU _ hu).2 with h | h | h
        · exact old.2 h
        · exact kR _ hk h
        · have := nR _ hk; omega
      · intro L hL
        rw [hμ _ (kR _ hk) (nR _ hk)]
        exact hL
      · intro b hb'
        exact hsame b (lR b (hb b hb')).1 (dR b (hb b hb')).1 (dR b (hb b hb')).2
  · rw [own_append]
    have hRn : R.own.Nodup := by
      rw [List.append_assoc, List.nodup_append] at own
      exact (List.nodup_append.1 own.2.1).1
    have hp : ((zs'.own ++ ex') ++ R.own).Perm ((zs'.own ++ R.own) ++ ex') := by
      rw [List.append_assoc, List.append_assoc]
      exact List.Perm.append_left _ List.perm_append_comm
    refine hp.nodup_iff.1 (List.nodup_append.2 ⟨hown, hRn, fun b hb c hc e => ?_⟩)
    subst e
    rcases (hblk b hb).2.2 with h | h | h
    · exact (dR b hc).1 h
    · exact (dR b hc).2 h
    · have := (lR b hc).1; omega
  · intro b hb
    rw [own_append, List.append_assoc] at hb
    by_cases h : b ∈ zs'.own ++ ex'
    · exact ⟨(hblk b h).1, (hblk b h).2.1⟩
    · have hbR : b ∈ R.own := by
        simp only [List.mem_append] at hb h
        rcases hb with hb | hb | hb
        · exact absurd (.inl hb) h
        · exact hb
        · exact absurd (.inr hb) h
      refine ⟨Nat.lt_of_lt_of_le (lR b hbR).1 hsize, fun hF => ?_⟩
      rcases (hfrz b hF).2 with h' | h' | h' | h'
      · exact (lR b hbR).2 h'
      · exact (dR b hbR).1 h'
      · exact (dR b hbR).2 h'
      · have := (lR b hbR).1; omega
  · rw [keys_append]
    refine List.nodup_append.2 ⟨hkeys, (List.nodup_append.1 keys).2.1, fun x hx y hy e => ?_⟩
    subst e
    rcases (hkeyN x hx).2 with h | h
    · exact kR x hy h
    · have := nR x hy; omega
  · intro x hx
    rw [keys_append] at hx
    rcases List.mem_append.1 hx with hx | hx
    · exact (hkeyN x hx).1
    · exact Nat.lt_of_lt_of_le (nR x hx) hN

/-! ### lists -/
theorem perm_get {α : Type} {l : List α} {p : Nat} {z : α} (h : l[p]? = some z) : ∃ R, l.Perm (z :: R) ∧ ∀ z', (l.set p z').Perm (z' :: R) := by
  induction l generalizing p with
  | nil => simp at h
  | cons a l ih =>
    cases p with
    | zero => simp at h; subst h; exact ⟨l, .refl _, fun z' => .refl _⟩
    | succ p =>
      obtain ⟨R, h1, h2⟩ := ih (p := p) (by simpa using h)
      exact ⟨a :: R, (h1.cons a).trans (List.Perm.swap ..), fun z' => ((h2 z').cons a).trans (List.Perm.swap ..)⟩
theorem perm_get2 {α : Type} {l : List α} {p q : Nat} {y z : α} (hpq : p ≠ q) (h : l[p]? = some y) (k : l[q]? = some z) : ∃ R, l.Perm (y :: z :: R) ∧ ∀ y' z', ((l.set p y').set q z').Perm (y' :: z' :: R) := by
  induction l generalizing p q with
  | nil => simp at h
  | cons a l ih =>
    cases p with
    | zero =>
      cases q with
      | zero => exact absurd rfl hpq
      | succ q =>
        simp at h; subst h
        obtain ⟨R, h1, h2⟩ := perm_get (p := q) (l := l) (z := z) (by simpa using k)
        exact ⟨R, h1.cons a, fun y' z' => (h2 z').cons y'⟩
    | succ p =>
      cases q with
      | zero =>
        simp at k; subst k
        obtain ⟨R, h1, h2⟩ := perm_get (p := p) (l := l) (z := y) (by simpa using h)
        exact ⟨R, (h1.cons a).trans (List.Perm.swap ..), fun y' z' => ((h2 y').cons z').trans (List.Perm.swap ..)⟩
      | succ q =>
        obtain ⟨R, h1, h2⟩ := ih (p := p) (q := q) (by omega) (by simpa using h) (by simpa using k)
        have sw : ∀ u v : α, (a :: u :: v :: R).Perm (u :: v :: a :: R) := fun u v => (List.Perm.swap ..).trans ((List.Perm.swap ..).cons u)
        exact ⟨a :: R, (h1.cons a).trans (sw _ _), fun y' z' => ((h2 y' z').cons a).trans (sw _ _)⟩
theorem perm_lift {α β : Type} (f : β → α) {S S' : List α} (h : S.Perm S') : ∀ {Z : List β}, Z.map f = S → ∃ Z', Z.Perm Z' ∧ Z'.map f = S' := by
  induction h with
  | nil => intro Z hZ; exact ⟨Z, .refl _, hZ⟩
  | cons a h ih =>
    intro Z hZ
    cases Z with
    | nil => simp at hZ
    | cons z Z =>
      simp only [List.map_cons, List.cons.injEq] at hZ
      obtain ⟨Z', h1, h2⟩ := ih hZ.2
      exact ⟨z :: Z', h1.cons z, by simp [hZ.1, h2]⟩
  | swap a b l =>
    intro Z hZ
    match Z, hZ with
    | y :: z :: Z, hZ =>
      simp only [List.map_cons, List.cons.injEq] at hZ
      exact ⟨z :: y :: Z, .swap .., by simp [hZ]⟩
  | trans _ _ ih1 ih2 =>
    intro Z hZ
    obtain ⟨Z1, h1, h2⟩ := ih1 hZ
    obtain ⟨Z2, h3, h4⟩ := ih2 h2
    exact ⟨Z2, h1.trans h3, h4⟩

/-! ### states -/
structure St where
  T : List (Nat × AV)
  S : List Slot

def look : List (Nat × AV) → Nat → Option AV
  | [], _ => none
  | (e, v) :: r, d => match Nat.beq d e with
    | true => some v
    | false => look r d
def putD (T : List (Nat × AV)) : Option Nat → AV → List (Nat × AV)
  | none, _ => T
  | some d, v => (d, v) :: T
def ev (T : List (Nat × AV)) : Operand → Option AV
  | .tmp t => look T t
  | .const v => match v with
    | .agg cs => match cs.all (·.oneCell') with
      | true => some (.agg (cs.toList.map .prim))
      | false => none
    | .tuple _ => none
    | v => some (.prim v)
  | .func f => some (.fn f [])
  | .global _ => none

theorem prims_vcs (m : Mem) : ∀ zl : List Value, (∀ u ∈ zl, u.oneCell' = true) → VCs m (zl.map .prim) zl []
  | [], _ => ⟨rfl, rfl⟩
  | u :: zl, h => ⟨[u], zl, [], [], rfl, rfl, ⟨⟨rfl, h u (by simp)⟩, rfl⟩, prims_vcs m zl fun v hv => h v (by simp [hv])⟩
theorem look_cons (T : List (Nat × AV)) (e d : Nat) (v : AV) : look ((e, v) :: T) d = if d = e then some v else look T d := by
  simp only [look]
  by_cases h : d = e
  · subst h; simp
  · have : Nat.beq d e = false := Bool.eq_false_iff.2 fun hb => h (Nat.eq_of_beq_eq_true hb)
    simp [this, h]

/-- The mark of a range over a function among the deferred calls. -/
def markD (d : Nat) : Deferred := { target := .collected d, args := #[] }
def DRel (m0 m : Mem) (a : Act) : Prop := ∃ ds : List Nat, a.defers = ds.map markD ∧ ds.Nodup ∧ ∀ d ∈ ds, m0.w.heap.size ≤ d ∧ m.F d ∧ m.w.heap[d]? = some (.deferred (some []))
theorem DRel.mono {m0 m m' : Mem} (h : m.Le m') {a : Act} (k : DRel m0 m a) : DRel m0 m' a := by
  obtain ⟨ds, h1, h2, h3⟩ := k
  exact ⟨ds, h1, h2, fun d hd => ⟨(h3 d hd).1, (h.F d (h3 d hd).2.1).1, (h.F d (h3 d hd).2.1).2.trans (h3 d hd).2.2⟩⟩
theorem DRel.nil {m0 m : Mem} {a : Act} (h : a.defers = []) : DRel m0 m a := ⟨[], h, .nil, fun d hd => by cases hd⟩
def TRel (m0 m : Mem) (nt : Nat) (T : List (Nat × AV)) (a : Act) : Prop := a.tmps.size = nt ∧ DRel m0 m a ∧ ∀ d v, look T d = some v → ∃ u, a.tmps[d]? = some u ∧ VV m v u []
def Rel (nt : Nat) (m0 : Mem) (st : St) (a : Act) (w : World) : Prop := ∃ m N Z, m.w = w ∧ Z.map (·.1) = st.S ∧ Good m0 m N Z [] ∧ TRel m0 m nt st.T a

theorem TRel.mono {m0 m m' : Mem} (h : m.Le m') {nt : Nat} {T : List (Nat × AV)} {a : Act} (k : TRel m0 m nt T a) : TRel m0 m' nt T a :=
  ⟨k.1, k.2.1.mono h, fun d v hd => let ⟨u, h1, h2⟩ := k.2.2 d v hd; ⟨u, h1, h2.mono h (by simp)⟩⟩
theorem TRel.put {m0 m : Mem} {nt : Nat} {T : List (Nat × AV)} {a : Act} (k : TRel m0 m nt T a) {dst : Option Nat} (hd : ∀ d, dst = some d → d < nt) {v : AV} {u : Value} (h : VV m v u []) : TRel m0 m nt (putD T dst v) (a.put dst u) := by
  cases dst with
  | none => exact k
  | some d =>
    refine ⟨by simp [Act.put, k.1], k.2.1, fun e v' he => ?_⟩
    simp only [putD, look_cons] at he
    split at he
    · rename_i e'; subst e'
      injection he with he; subst he
      exact ⟨u, by simp [Act.put, k.1, hd e rfl], h⟩
    · rename_i hne
      obtain ⟨u', h1, h2⟩ := k.2.2 e v' he
      exact ⟨u', by simp only [Act.put]; rw [Array.getElem?_setIfInBounds_ne (fun h => hne h.symm)]; exact h1, h2⟩
theorem TRel.ev {m0 m : Mem} {nt : Nat} {T : List (Nat × AV)} {a : Act} (k : TRel m0 m nt T a) {x : Operand} {v : AV} (h : ev T x = some v) : VV m v (a.eval x) [] := by
  cases x with
  | tmp t =>
    obtain ⟨u, h1, h2⟩ := k.2.2 t v h
    have : a.eval (.tmp t) = u := by simp [Act.eval, Array.getD_eq_getD_getElem?, h1]
    rw [this]; exact h2
  | const c =>
    cases c
    case agg cs =>
      have h : (match cs.all (·.oneCell') with | true => some (AV.agg (cs.toList.map .prim)) | false => none) = some v := h
      split at h
      · rename_i hc
        injection h with h
        subst h
        exact ⟨cs, rfl, prims_vcs m _ fun u hu => by simpa using Array.all_eq_true_iff_forall_mem.1 hc u (by simpa using hu)⟩
      · cases h
    case tuple vs => cases h
    all_goals
      injection h with h
      subst h
      exact ⟨⟨rfl, rfl⟩, rfl⟩
  | func f =>
    injection h with h
    subst h
    exact ⟨#[], rfl, rfl, rfl⟩
  | global g => cases h
end Go.Proofs.Ytcfleoaldoebhaa

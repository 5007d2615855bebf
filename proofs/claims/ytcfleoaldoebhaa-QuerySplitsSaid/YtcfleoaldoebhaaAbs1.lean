/-
  Abstract values: what a value in memory reads as, which blocks it owns, and that this is kept while those blocks are left alone. No conditions.
-/
import Derived.WalkKit
import Derived.Maps.AppendAt
namespace Go.Proofs.Ytcfleoaldoebhaa
set_option linter.unusedVariables false

/-- An abstract value. lst true: a slice that owns its block; lst false: a slice that nobody writes any more; bx: a pointer that owns its block; sl, ptr: a slice of, a pointer into the object with the stamp x; fp: a pointer into memory that nobody writes any more; opt c: a only if c. -/
inductive AV where
  | prim (v : Value)
  | dead
  | agg (cs : List AV)
  | tup (vs : List AV)
  | lst (own : Bool) (t : TypeId) (sz : Nat) (l : List AV)
  | bx (t : TypeId) (a : AV)
  | sl (x off len : Nat)
  | ptr (x i k : Nat)
  | fp (cs : List AV)
  | fn (f : FuncId) (cap : List AV)
  | mp (x : Nat)
  | opt (c : Bool) (a : AV)

/-- Where an object lies. -/
structure Loc where
  blk : Nat
  cap : Nat
  sz : Nat
  isNil : Bool

/-- A world, where the objects lie, which stamps were used, and which blocks nobody writes any more. -/
structure Mem where
  μ : Nat → Option Loc
  U : Nat → Prop
  w : World
  F : Nat → Prop

mutual
def AV.width : AV → Nat
  | .agg cs => AV.widths cs
  | _ => 1
def AV.widths : List AV → Nat
  | [] => 0
  | a :: as => a.width + AV.widths as
end

def SlV (L : Loc) (off len : Nat) (v : Value) : Prop :=
  (L.isNil = true ∧ v = .slice none 0 0 ∧ off = 0 ∧ len = 0) ∨
  (L.isNil = false ∧ off + len ≤ L.cap ∧ ∃ o, v = .slice (some ⟨L.blk, o, none⟩) len (L.cap - off) ∧ (off < L.cap ∨ off = 0 → o = off * L.sz))

mutual
/-- The cells c hold the value; it owns the blocks bs. -/
def VC (m : Mem) : AV → List Value → List Nat → Prop
  | .prim u, c, bs => (c = [u] ∧ u.oneCell' = true) ∧ bs = []
  | .dead, c, bs => (∃ v, c = [v] ∧ v.oneCell' = true) ∧ bs = []
  | .agg cs, c, bs => VCs m cs c bs
  | .tup _, _, _ => False
  | .opt _ _, _, _ => False
  | .lst false _ sz l, c, bs => bs = [] ∧ ∃ A cap, c = [.slice A l.length cap] ∧ l.length ≤ cap ∧ (∀ e ∈ l, e.width = sz) ∧
      (0 < l.length → ∃ b off arr t r, A = some ⟨b, off, none⟩ ∧ m.F b ∧ m.w.heap[b]? = some (.cells arr t r) ∧ VCs m l ((arr.toList.drop off).take (l.length * sz)) [])
  | .lst true t sz l, c, bs => (c = [.slice none 0 0] ∧ l = [] ∧ bs = []) ∨
      ∃ g cap arr bs', c = [.slice (some ⟨g, 0, none⟩) l.length cap] ∧ bs = g :: bs' ∧ m.w.heap[g]? = some (.cells arr t (0, 0)) ∧ arr.size = cap * sz ∧ l.length ≤ cap ∧ cap ≤ maxLen ∧
        (∀ e ∈ l, e.width = sz) ∧ VCs m l (arr.toList.take (l.length * sz)) bs'
  | .bx t a, c, bs => ∃ g arr bs', c = [.pointer (some ⟨g, 0, none⟩)] ∧ bs = g :: bs' ∧ m.w.heap[g]? = some (.cells arr t (0, 0)) ∧ (∃ cap, arr.size = cap * a.width ∧ 1 ≤ cap ∧ cap ≤ maxLen) ∧ VC m a (arr.toList.take a.width) bs'
  | .sl x off len, c, bs => bs = [] ∧ m.U x ∧ ∃ A q, c = [.slice A len q] ∧ ∀ L, m.μ x = some L → SlV L off len (.slice A len q)
  | .ptr x i k, c, bs => bs = [] ∧ m.U x ∧ ∃ A, c = [.pointer A] ∧ ∀ L, m.μ x = some L → A = some ⟨L.blk, i * L.sz + k, none⟩
  | .fp cs, c, bs => bs = [] ∧ ∃ b off arr t r, c = [.pointer (some ⟨b, off, none⟩)] ∧ m.F b ∧ m.w.heap[b]? = some (.cells arr t r) ∧ VCs m cs ((arr.toList.drop off).take (AV.widths cs)) []
  | .fn f cap, c, bs => ∃ vs : Array Value, c = [.func (.func f) #[] vs] ∧ VCs m cap vs.toList bs
  | .mp x, c, bs => bs = [] ∧ m.U x ∧ ∃ A, c = [.map A] ∧ ∀ L, m.μ x = some L → A = some L.blk
def VCs (m : Mem) : List AV → List Value → List Nat → Prop
  | [], c, bs => c = [] ∧ bs = []
  | a :: as, c, bs => ∃ c1 c2 b1 b2, c = c1 ++ c2 ∧ bs = b1 ++ b2 ∧ VC m a c1 b1 ∧ VCs m as c2 b2
/-- The values vs, each whole (a struct as one value). -/
def VTs (m : Mem) : List AV → List Value → List Nat → Prop
  | [], vs, bs => vs = [] ∧ bs = []
  | .agg cs :: as, vs, bs => ∃ cells vs' b1 b2, vs = .agg cells :: vs' ∧ bs = b1 ++ b2 ∧ VCs m cs cells.toList b1 ∧ VTs m as vs' b2
  | .dead :: as, vs, bs => ∃ v vs' b1 b2, vs = v :: vs' ∧ bs = b1 ++ b2 ∧ b1 = [] ∧ VTs m as vs' b2
  | a :: as, vs, bs => ∃ v vs' b1 b2, vs = v :: vs' ∧ bs = b1 ++ b2 ∧ VC m a [v] b1 ∧ VTs m as vs' b2
end
/-- The one value v. -/
def VV0 (m : Mem) : AV → Value → List Nat → Prop
  | .agg cs, v, bs => ∃ cells, v = .agg cells ∧ VCs m cs cells.toList bs
  | .tup cs, v, bs => ∃ vs, v = .tuple vs ∧ VTs m cs vs.toList bs
  | .dead, _, bs => bs = []
  | a, v, bs => VC m a [v] bs
def VV (m : Mem) : AV → Value → List Nat → Prop
  | .opt c a, v, bs => bs = [] ∧ (c = true → VV m a v []) ∧ (c = false → v = undef)
  | a, v, bs => VV0 m a v bs

def ntup : AV → Bool
  | .tup _ | .opt .. => false
  | _ => true
theorem VTs.ntup {m : Mem} {a : AV} {as : List AV} {vs : List Value} {bs : List Nat} (h : VTs m (a :: as) vs bs) : ntup a = true := by
  cases a
  case tup cs => obtain ⟨_, _, _, _, _, _, h, _⟩ := h; exact h.elim
  case opt c b => obtain ⟨_, _, _, _, _, _, h, _⟩ := h; exact h.elim
  all_goals rfl
theorem VTs_cons {m : Mem} {a : AV} {as : List AV} {vs : List Value} {bs : List Nat} (ha : ntup a = true) : VTs m (a :: as) vs bs ↔ ∃ v vs' b1 b2, vs = v :: vs' ∧ bs = b1 ++ b2 ∧ VV m a v b1 ∧ VTs m as vs' b2 := by
  cases a
  case agg cs =>
    constructor
    · rintro ⟨cells, vs', b1, b2, rfl, rfl, h1, h2⟩
      exact ⟨_, vs', b1, b2, rfl, rfl, ⟨cells, rfl, h1⟩, h2⟩
    · rintro ⟨_, vs', b1, b2, rfl, rfl, ⟨cells, rfl, h1⟩, h2⟩
      exact ⟨cells, vs', b1, b2, rfl, rfl, h1, h2⟩
  case tup cs => cases ha
  case opt c b => cases ha
  all_goals exact Iff.rfl

/-- From m to m': what was frozen stays, and used stamps stay where they were, or are gone. -/
structure Mem.Le (m m' : Mem) : Prop where
  U : ∀ x, m.U x → m'.U x
  μ : ∀ x L, m.U x → m'.μ x = some L → m.μ x = some L
  F : ∀ b, m.F b → m'.F b ∧ m'.w.heap[b]? = m.w.heap[b]?
theorem Mem.Le.refl (m : Mem) : m.Le m := ⟨fun _ h => h, fun _ _ _ h => h, fun _ h => ⟨h, rfl⟩⟩
theorem Mem.Le.trans {m m' m'' : Mem} (h : m.Le m') (k : m'.Le m'') : m.Le m'' :=
  ⟨fun x hx => k.U x (h.U x hx), fun x L hx hm => h.μ x L hx (k.μ x L (h.U x hx) hm), fun b hb => ⟨(k.F b (h.F b hb).1).1, (k.F b (h.F b hb).1).2.trans (h.F b hb).2⟩⟩

/-- The same for cells alone. -/
structure Mem.LeC (m m' : Mem) : Prop where
  U : ∀ x, m.U x → m'.U x
  μ : ∀ x L, m.U x → m'.μ x = some L → m.μ x = some L
  F : ∀ b, m.F b → (∃ arr t r, m.w.heap[b]? = some (.cells arr t r)) → m'.F b ∧ m'.w.heap[b]? = m.w.heap[b]?
theorem Mem.Le.c {m m' : Mem} (h : m.Le m') : m.LeC m' := ⟨h.U, h.μ, fun b hb _ => h.F b hb⟩

mutual
theorem VC.monoC {m m' : Mem} (h : m.LeC m') : (a : AV) → {c : List Value} → {bs : List Nat} → (∀ b ∈ bs, m'.w.heap[b]? = m.w.heap[b]?) → VC m a c bs → VC m' a c bs
  | .prim _, _, _, _, k => k
  | .dead, _, _, _, k => k
  | .agg cs, _, _, hb, k => VCs.monoC h cs hb k
  | .tup cs, _, _, _, k => k.elim
  | .opt _ _, _, _, _, k => k.elim
  | .lst false _ sz l, _, _, hb, ⟨e, A, cap, e1, e2, e3, k⟩ => ⟨e, A, cap, e1, e2, e3, fun h0 => by
      obtain ⟨b, off, arr, t, r, q1, q2, q3, q4⟩ := k h0
      exact ⟨b, off, arr, t, r, q1, (h.F b q2 ⟨_, _, _, q3⟩).1, (h.F b q2 ⟨_, _, _, q3⟩).2.trans q3, VCs.monoC h l (by simp) q4⟩⟩
  | .lst true t sz l, _, _, hb, .inl k => .inl k
  | .lst true t sz l, _, _, hb, .inr ⟨g, cap, arr, bs', e1, e2, e3, e4, e5, e6, e7, k⟩ => .inr ⟨g, cap, arr, bs', e1, e2, (hb g (by simp [e2])).trans e3, e4, e5, e6, e7, VCs.monoC h l (fun b q => hb b (by simp [e2, q])) k⟩
  | .bx t a, _, _, hb, ⟨g, arr, bs', e1, e2, e3, e4, k⟩ => ⟨g, arr, bs', e1, e2, (hb g (by simp [e2])).trans e3, e4, VC.monoC h a (fun b q => hb b (by simp [e2, q])) k⟩
  | .sl x off len, _, _, hb, ⟨e, hu, A, q, e1, k⟩ => ⟨e, h.U x hu, A, q, e1, fun L hL => k L (h.μ x L hu hL)⟩
  | .ptr x i j, _, _, hb, ⟨e, hu, v, e1, k⟩ => ⟨e, h.U x hu, v, e1, fun L hL => k L (h.μ x L hu hL)⟩
  | .fp cs, _, _, hb, ⟨e, b, off, arr, t, r, q1, q2, q3, q4⟩ => ⟨e, b, off, arr, t, r, q1, (h.F b q2 ⟨_, _, _, q3⟩).1, (h.F b q2 ⟨_, _, _, q3⟩).2.trans q3, VCs.monoC h cs (by simp) q4⟩
  | .fn f cap, _, _, hb, ⟨vs, e, k⟩ => ⟨vs, e, VCs.monoC h cap hb k⟩
  | .mp x, _, _, hb, ⟨e, hu, v, e1, k⟩ => ⟨e, h.U x hu, v, e1, fun L hL => k L (h.μ x L hu hL)⟩
theorem VCs.monoC {m m' : Mem} (h : m.LeC m') : (as : List AV) → {c : List Value} → {bs : List Nat} → (∀ b ∈ bs, m'.w.heap[b]? = m.w.heap[b]?) → VCs m as c bs → VCs m' as c bs
  | [], _, _, _, k => k
  | a :: as, _, _, hb, ⟨c1, c2, b1, b2, e1, e2, k1, k2⟩ => ⟨c1, c2, b1, b2, e1, e2, VC.monoC h a (fun b q => hb b (by simp [e2, q])) k1, VCs.monoC h as (fun b q => hb b (by simp [e2, q])) k2⟩
theorem VTs.monoC {m m' : Mem} (h : m.LeC m') : (as : List AV) → {c : List Value} → {bs : List Nat} → (∀ b ∈ bs, m'.w.heap[b]? = m.w.heap[b]?) → VTs m as c bs → VTs m' as c bs
  | [], _, _, _, k => k
  | .agg cs :: as, _, _, hb, ⟨c1, c2, b1, b2, e1, e2, k1, k2⟩ => ⟨c1, c2, b1, b2, e1, e2, VCs.monoC h cs (fun b q => hb b (by simp [e2, q])) k1, VTs.monoC h as (fun b q => hb b (by simp [e2, q])) k2⟩
  | .prim u :: as, _, _, hb, ⟨v, vs, b1, b2, e1, e2, k1, k2⟩ => ⟨v, vs, b1, b2, e1, e2, k1, VTs.monoC h as (fun b q => hb b (by simp [e2, q])) k2⟩
  | .dead :: as, _, _, hb, ⟨v, vs, b1, b2, e1, e2, k1, k2⟩ => ⟨v, vs, b1, b2, e1, e2, k1, VTs.monoC h as (fun b q => hb b (by simp [e2, q])) k2⟩
  | .tup cs :: as, _, _, hb, ⟨v, vs, b1, b2, e1, e2, k1, k2⟩ => ⟨v, vs, b1, b2, e1, e2, k1.elim, VTs.monoC h as (fun b q => hb b (by simp [e2, q])) k2⟩
  | .lst o t s l :: as, _, _, hb, ⟨v, vs, b1, b2, e1, e2, k1, k2⟩ => ⟨v, vs, b1, b2, e1, e2, VC.monoC h (.lst o t s l) (fun b q => hb b (by simp [e2, q])) k1, VTs.monoC h as (fun b q => hb b (by simp [e2, q])) k2⟩
  | .bx t a :: as, _, _, hb, ⟨v, vs, b1, b2, e1, e2, k1, k2⟩ => ⟨v, vs, b1, b2, e1, e2, VC.monoC h (.bx t a) (fun b q => hb b (by simp [e2, q])) k1, VTs.monoC h as (fun b q => hb b (by simp [e2, q])) k2⟩
  | .sl x i j :: as, _, _, hb, ⟨v, vs, b1, b2, e1, e2, k1, k2⟩ => ⟨v, vs, b1, b2, e1, e2, VC.monoC h (.sl x i j) (fun b q => hb b (by simp [e2, q])) k1, VTs.monoC h as (fun b q => hb b (by simp [e2, q])) k2⟩
  | .ptr x i j :: as, _, _, hb, ⟨v, vs, b1, b2, e1, e2, k1, k2⟩ => ⟨v, vs, b1, b2, e1, e2, VC.monoC h (.ptr x i j) (fun b q => hb b (by simp [e2, q])) k1, VTs.monoC h as (fun b q => hb b (by simp [e2, q])) k2⟩
  | .fp cs :: as, _, _, hb, ⟨v, vs, b1, b2, e1, e2, k1, k2⟩ => ⟨v, vs, b1, b2, e1, e2, VC.monoC h (.fp cs) (fun b q => hb b (by simp [e2, q])) k1, VTs.monoC h as (fun b q => hb b (by simp [e2, q])) k2⟩
  | .fn f cap :: as, _, _, hb, ⟨v, vs, b1, b2, e1, e2, k1, k2⟩ => ⟨v, vs, b1, b2, e1, e2, VC.monoC h (.fn f cap) (fun b q => hb b (by simp [e2, q])) k1, VTs.monoC h as (fun b q => hb b (by simp [e2, q])) k2⟩
  | .mp x :: as, _, _, hb, ⟨v, vs, b1, b2, e1, e2, k1, k2⟩ => ⟨v, vs, b1, b2, e1, e2, VC.monoC h (.mp x) (fun b q => hb b (by simp [e2, q])) k1, VTs.monoC h as (fun b q => hb b (by simp [e2, q])) k2⟩
  | .opt c b :: as, _, _, hb, ⟨v, vs, b1, b2, e1, e2, k1, k2⟩ => k1.elim
end
theorem VV0.monoC {m m' : Mem} (h : m.LeC m') {a : AV} {v : Value} {bs : List Nat} (hb : ∀ b ∈ bs, m'.w.heap[b]? = m.w.heap[b]?) (k : VV0 m a v bs) : VV0 m' a v bs := by
  cases a
  case agg cs => obtain ⟨cells, e, k⟩ := k; exact ⟨cells, e, VCs.monoC h cs hb k⟩
  case tup cs => obtain ⟨cells, e, k⟩ := k; exact ⟨cells, e, VTs.monoC h cs hb k⟩
  case dead => exact k
  all_goals exact VC.monoC h _ hb k
theorem VV.monoC {m m' : Mem} (h : m.LeC m') : {a : AV} → {v : Value} → {bs : List Nat} → (hb : ∀ b ∈ bs, m'.w.heap[b]? = m.w.heap[b]?) → (k : VV m a v bs) → VV m' a v bs
  | .opt c a, _, _, hb, k => ⟨k.1, fun hc => VV.monoC h (a := a) (by simp) (k.2.1 hc), k.2.2⟩
  | .prim _, _, _, hb, k | .dead, _, _, hb, k | .agg _, _, _, hb, k | .tup _, _, _, hb, k | .lst .., _, _, hb, k | .bx .., _, _, hb, k | .sl .., _, _, hb, k | .ptr .., _, _, hb, k | .fp _, _, _, hb, k | .fn .., _, _, hb, k | .mp _, _, _, hb, k => VV0.monoC (m := m) h hb k

theorem VC.mono {m m' : Mem} (h : m.Le m') (a : AV) {c : List Value} {bs : List Nat} (hb : ∀ b ∈ bs, m'.w.heap[b]? = m.w.heap[b]?) (k : VC m a c bs) : VC m' a c bs := VC.monoC h.c a hb k
theorem VCs.mono {m m' : Mem} (h : m.Le m') (as : List AV) {c : List Value} {bs : List Nat} (hb : ∀ b ∈ bs, m'.w.heap[b]? = m.w.heap[b]?) (k : VCs m as c bs) : VCs m' as c bs := VCs.monoC h.c as hb k
theorem VTs.mono {m m' : Mem} (h : m.Le m') (as : List AV) {c : List Value} {bs : List Nat} (hb : ∀ b ∈ bs, m'.w.heap[b]? = m.w.heap[b]?) (k : VTs m as c bs) : VTs m' as c bs := VTs.monoC h.c as hb k
theorem VV0.mono {m m' : Mem} (h : m.Le m') {a : AV} {v : Value} {bs : List Nat} (hb : ∀ b ∈ bs, m'.w.heap[b]? = m.w.heap[b]?) (k : VV0 m a v bs) : VV0 m' a v bs := VV0.monoC h.c hb k
theorem VV.mono {m m' : Mem} (h : m.Le m') {a : AV} {v : Value} {bs : List Nat} (hb : ∀ b ∈ bs, m'.w.heap[b]? = m.w.heap[b]?) (k : VV m a v bs) : VV m' a v bs := VV.monoC h.c hb k

mutual
/-- The same value when all that it owns is frozen. -/
def AV.frz : AV → AV
  | .agg cs => .agg (AV.frzs cs)
  | .tup cs => .tup (AV.frzs cs)
  | .lst _ t sz l => .lst false t sz (AV.frzs l)
  | .bx t a => .fp [AV.frz a]
  | .fp cs => .fp (AV.frzs cs)
  | .fn f cap => .fn f (AV.frzs cap)
  | .opt c a => .opt c (AV.frz a)
  | a => a
def AV.frzs : List AV → List AV
  | [] => []
  | a :: as => a.frz :: AV.frzs as
end
theorem frzs_map (l : List AV) : AV.frzs l = l.map AV.frz := by
  induction l with
  | nil => rfl
  | cons a l ih => simp [AV.frzs, ih]
theorem frzs_len (l : List AV) : (AV.frzs l).length = l.length := by simp [frzs_map]
mutual
theorem frz_width : (a : AV) → a.frz.width = a.width
  | .agg cs => frzs_width cs
  | .prim _ | .dead | .tup _ | .lst .. | .bx .. | .sl .. | .ptr .. | .fp _ | .fn .. | .mp _ | .opt .. => rfl
theorem frzs_width : (as : List AV) → AV.widths (AV.frzs as) = AV.widths as
  | [] => rfl
  | a :: as => by simp [AV.frzs, AV.widths, frz_width a, frzs_width as]
end
mutual
theorem VC.len {m : Mem} : (a : AV) → {c : List Value} → {bs : List Nat} → VC m a c bs → c.length = a.width
  | .prim _, _, _, k => by rw [k.1.1]; rfl
  | .dead, _, _, ⟨⟨_, e, _⟩, _⟩ => by rw [e]; rfl
  | .agg cs, _, _, k => VCs.len cs k
  | .tup cs, _, _, k => k.elim
  | .opt _ _, _, _, k => k.elim
  | .lst false _ _ l, _, _, ⟨_, _, _, e, _⟩ => by rw [e]; rfl
  | .lst true _ _ l, _, _, .inl ⟨e, _⟩ => by rw [e]; rfl
  | .lst true _ _ l, _, _, .inr ⟨_, _, _, _, e, _⟩ => by rw [e]; rfl
  | .bx t a, _, _, ⟨_, _, _, e, _⟩ => by rw [e]; rfl
  | .sl .., _, _, ⟨_, _, _, _, e, _⟩ => by rw [e]; rfl
  | .ptr .., _, _, ⟨_, _, _, e, _⟩ => by rw [e]; rfl
  | .fp _, _, _, ⟨_, _, _, _, _, _, e, _⟩ => by rw [e]; rfl
  | .fn .., _, _, ⟨_, e, _⟩ => by rw [e]; rfl
  | .mp _, _, _, ⟨_, _, _, e, _⟩ => by rw [e]; rfl
theorem VCs.len {m : Mem} : (as : List AV) → {c : List Value} → {bs : List Nat} → VCs m as c bs → c.length = AV.widths as
  | [], _, _, k => by rw [k.1]; rfl
  | a :: as, _, _, ⟨c1, c2, b1, b2, e1, e2, k1, k2⟩ => by rw [e1, List.length_append, VC.len a k1, VCs.len as k2]; rfl
end

mutual
theorem VC.frz {m m' : Mem} (h : m.Le m') : (a : AV) → {c : List Value} → {bs : List Nat} → (∀ b ∈ bs, m'.F b ∧ m'.w.heap[b]? = m.w.heap[b]?) → VC m a c bs → VC m' a.frz c []
  | .prim _, _, _, _, k => ⟨k.1, rfl⟩
  | .dead, _, _, _, k => ⟨k.1, rfl⟩
  | .agg cs, _, _, hb, k => VCs.frz h cs hb k
  | .tup cs, _, _, _, k => k.elim
  | .opt _ _, _, _, _, k => k.elim
  | .lst false _ sz l, _, _, hb, ⟨e, A, cap, e1, e2, e3, k⟩ => ⟨rfl, A, cap, by rw [frzs_len]; exact e1, by rw [frzs_len]; exact e2, by
      intro x hx; rw [frzs_map] at hx; obtain ⟨y, hy, rfl⟩ := List.mem_map.1 hx; rw [frz_width]; exact e3 y hy, fun h0 => by
      rw [frzs_len] at h0 ⊢
      obtain ⟨b, off, arr, t, r, q1, q2, q3, q4⟩ := k h0
      exact ⟨b, off, arr, t, r, q1, (h.F b q2).1, (h.F b q2).2.trans q3, VCs.frz h l (by simp) q4⟩⟩
  | .lst true t sz l, _, _, hb, .inl ⟨e1, e2, e3⟩ => by
      subst e2
      exact ⟨rfl, none, 0, e1, Nat.le_refl _, by simp [AV.frzs], fun h0 => by simp [AV.frzs] at h0⟩
  | .lst true t sz l, _, _, hb, .inr ⟨g, cap, arr, bs', e1, e2, e3, e4, e5, e6, e7, k⟩ => ⟨rfl, some ⟨g, 0, none⟩, cap, by rw [frzs_len]; exact e1, by rw [frzs_len]; exact e5, by
      intro x hx; rw [frzs_map] at hx; obtain ⟨y, hy, rfl⟩ := List.mem_map.1 hx; rw [frz_width]; exact e7 y hy, fun h0 => by
      rw [frzs_len] at h0 ⊢
      exact ⟨g, 0, arr, t, (0, 0), rfl, (hb g (by simp [e2])).1, (hb g (by simp [e2])).2.trans e3, VCs.frz h l (fun b q => hb b (by simp [e2, q])) k⟩⟩
  | .bx t a, _, _, hb, ⟨g, arr, bs', e1, e2, e3, e4, k⟩ => ⟨rfl, g, 0, arr, t, (0, 0), e1, (hb g (by simp [e2])).1, (hb g (by simp [e2])).2.trans e3, by
      have hw := frz_width a
      have k' := VC.frz h a (fun b q => hb b (by simp [e2, q])) k
      refine ⟨arr.toList.take a.width, [], [], [], ?_, rfl, k', rfl, rfl⟩
      simp only [List.drop_zero, List.append_nil]
      show arr.toList.take (a.frz.width + 0) = _
      rw [hw]; rfl⟩
  | .sl x off len, _, _, hb, ⟨e, hu, A, q, e1, k⟩ => ⟨rfl, h.U x hu, A, q, e1, fun L hL => k L (h.μ x L hu hL)⟩
  | .ptr x i j, _, _, hb, ⟨e, hu, v, e1, k⟩ => ⟨rfl, h.U x hu, v, e1, fun L hL => k L (h.μ x L hu hL)⟩
  | .fp cs, _, _, hb, ⟨e, b, off, arr, t, r, q1, q2, q3, q4⟩ => ⟨rfl, b, off, arr, t, r, q1, (h.F b q2).1, (h.F b q2).2.trans q3, by rw [frzs_width]; exact VCs.frz h cs (by simp) q4⟩
  | .fn f cap, _, _, hb, ⟨vs, e, k⟩ => ⟨vs, e, VCs.frz h cap hb k⟩
  | .mp x, _, _, hb, ⟨e, hu, v, e1, k⟩ => ⟨rfl, h.U x hu, v, e1, fun L hL => k L (h.μ x L hu hL)⟩
theorem VCs.frz {m m' : Mem} (h : m.Le m') : (as : List AV) → {c : List Value} → {bs : List Nat} → (∀ b ∈ bs, m'.F b ∧ m'.w.heap[b]? = m.w.heap[b]?) → VCs m as c bs → VCs m' (AV.frzs as) c []
  | [], _, _, _, k => ⟨k.1, rfl⟩
  | a :: as, _, _, hb, ⟨c1, c2, b1, b2, e1, e2, k1, k2⟩ => ⟨c1, c2, [], [], e1, rfl, VC.frz h a (fun b q => hb b (by simp [e2, q])) k1, VCs.frz h as (fun b q => hb b (by simp [e2, q])) k2⟩
theorem VTs.frz {m m' : Mem} (h : m.Le m') : (as : List AV) → {c : List Value} → {bs : List Nat} → (∀ b ∈ bs, m'.F b ∧ m'.w.heap[b]? = m.w.heap[b]?) → VTs m as c bs → VTs m' (AV.frzs as) c []
  | [], _, _, _, k => ⟨k.1, rfl⟩
  | .agg cs :: as, _, _, hb, ⟨c1, c2, b1, b2, e1, e2, k1, k2⟩ => ⟨c1, c2, [], [], e1, rfl, VCs.frz h cs (fun b q => hb b (by simp [e2, q])) k1, VTs.frz h as (fun b q => hb b (by simp [e2, q])) k2⟩
  | .prim u :: as, _, _, hb, ⟨v, vs, b1, b2, e1, e2, k1, k2⟩ => ⟨v, vs, [], [], e1, rfl, ⟨k1.1, rfl⟩, VTs.frz h as (fun b q => hb b (by simp [e2, q])) k2⟩
  | .dead :: as, _, _, hb, ⟨v, vs, b1, b2, e1, e2, k1, k2⟩ => ⟨v, vs, [], [], e1, rfl, rfl, VTs.frz h as (fun b q => hb b (by simp [e2, q])) k2⟩
  | .tup cs :: as, _, _, hb, ⟨v, vs, b1, b2, e1, e2, k1, k2⟩ => ⟨v, vs, [], [], e1, rfl, k1.elim, VTs.frz h as (fun b q => hb b (by simp [e2, q])) k2⟩
  | .lst o t s l :: as, _, _, hb, ⟨v, vs, b1, b2, e1, e2, k1, k2⟩ => ⟨v, vs, [], [], e1, rfl, VC.frz h (.lst o t s l) (fun b q => hb b (by simp [e2, q])) k1, VTs.frz h as (fun b q => hb b (by simp [e2, q])) k2⟩
  | .bx t a :: as, _, _, hb, ⟨v, vs, b1, b2, e1, e2, k1, k2⟩ => ⟨v, vs, [], [], e1, rfl, VC.frz h (.bx t a) (fun b q => hb b (by simp [e2, q])) k1, VTs.frz h as (fun b q => hb b (by simp [e2, q])) k2⟩
  | .sl x i j :: as, _, _, hb, ⟨v, vs, b1, b2, e1, e2, k1, k2⟩ => ⟨v, vs, [], [], e1, rfl, VC.frz h (.sl x i j) (fun b q => hb b (by simp [e2, q])) k1, VTs.frz h as (fun b q => hb b (by simp [e2, q])) k2⟩
  | .ptr x i j :: as, _, _, hb, ⟨v, vs, b1, b2, e1, e2, k1, k2⟩ => ⟨v, vs, [], [], e1, rfl, VC.frz h (.ptr x i j) (fun b q => hb b (by simp [e2, q])) k1, VTs.frz h as (fun b q => hb b (by simp [e2, q])) k2⟩
  | .fp cs :: as, _, _, hb, ⟨v, vs, b1, b2, e1, e2, k1, k2⟩ => ⟨v, vs, [], [], e1, rfl, VC.frz h (.fp cs) (fun b q => hb b (by simp [e2, q])) k1, VTs.frz h as (fun b q => hb b (by simp [e2, q])) k2⟩
  | .fn f cap :: as, _, _, hb, ⟨v, vs, b1, b2, e1, e2, k1, k2⟩ => ⟨v, vs, [], [], e1, rfl, VC.frz h (.fn f cap) (fun b q => hb b (by simp [e2, q])) k1, VTs.frz h as (fun b q => hb b (by simp [e2, q])) k2⟩
  | .mp x :: as, _, _, hb, ⟨v, vs, b1, b2, e1, e2, k1, k2⟩ => ⟨v, vs, [], [], e1, rfl, VC.frz h (.mp x) (fun b q => hb b (by simp [e2, q])) k1, VTs.frz h as (fun b q => hb b (by simp [e2, q])) k2⟩
  | .opt c b :: as, _, _, hb, ⟨v, vs, b1, b2, e1, e2, k1, k2⟩ => k1.elim
end
theorem VV0.frz {m m' : Mem} (h : m.Le m') {a : AV} {v : Value} {bs : List Nat} (hb : ∀ b ∈ bs, m'.F b ∧ m'.w.heap[b]? = m.w.heap[b]?) (k : VV0 m a v bs) : VV0 m' a.frz v [] := by
  cases a
  case agg cs => obtain ⟨cells, e, k⟩ := k; exact ⟨cells, e, VCs.frz h cs hb k⟩
  case tup cs => obtain ⟨cells, e, k⟩ := k; exact ⟨cells, e, VTs.frz h cs hb k⟩
  case dead => exact rfl
  case lst o t s l => exact VC.frz h (.lst o t s l) hb k
  all_goals exact VC.frz h _ hb k
theorem VV.frz {m m' : Mem} (h : m.Le m') : {a : AV} → {v : Value} → {bs : List Nat} → (hb : ∀ b ∈ bs, m'.F b ∧ m'.w.heap[b]? = m.w.heap[b]?) → (k : VV m a v bs) → VV m' a.frz v []
  | .opt c a, _, _, hb, k => ⟨rfl, fun hc => VV.frz h (a := a) (by simp) (k.2.1 hc), k.2.2⟩
  | .lst o t s l, _, _, hb, k => VC.frz h (.lst o t s l) hb k
  | .prim _, _, _, hb, k | .dead, _, _, hb, k | .agg _, _, _, hb, k | .tup _, _, _, hb, k | .bx .., _, _, hb, k | .sl .., _, _, hb, k | .ptr .., _, _, hb, k | .fp _, _, _, hb, k | .fn .., _, _, hb, k | .mp _, _, _, hb, k => VV0.frz (m := m) h hb k

mutual
theorem VC.ones {m : Mem} : (a : AV) → {c : List Value} → {bs : List Nat} → VC m a c bs → ∀ u ∈ c, u.oneCell' = true
  | .prim _, _, _, k => by rw [k.1.1]; simpa using k.1.2
  | .dead, _, _, ⟨⟨_, e, h⟩, _⟩ => by rw [e]; simpa using h
  | .agg cs, _, _, k => VCs.ones cs k
  | .tup cs, _, _, k => k.elim
  | .opt _ _, _, _, k => k.elim
  | .lst false _ _ l, _, _, ⟨_, _, _, e, _⟩ => by rw [e]; simp [Value.oneCell']
  | .lst true _ _ l, _, _, .inl ⟨e, _⟩ => by rw [e]; simp [Value.oneCell']
  | .lst true _ _ l, _, _, .inr ⟨_, _, _, _, e, _⟩ => by rw [e]; simp [Value.oneCell']
  | .bx t a, _, _, ⟨_, _, _, e, _⟩ => by rw [e]; simp [Value.oneCell']
  | .sl .., _, _, ⟨_, _, _, _, e, _⟩ => by rw [e]; simp [Value.oneCell']
  | .ptr .., _, _, ⟨_, _, _, e, _⟩ => by rw [e]; simp [Value.oneCell']
  | .fp _, _, _, ⟨_, _, _, _, _, _, e, _⟩ => by rw [e]; simp [Value.oneCell']
  | .fn .., _, _, ⟨_, e, _⟩ => by rw [e]; simp [Value.oneCell']
  | .mp _, _, _, ⟨_, _, _, e, _⟩ => by rw [e]; simp [Value.oneCell']
theorem VCs.ones {m : Mem} : (as : List AV) → {c : List Value} → {bs : List Nat} → VCs m as c bs → ∀ u ∈ c, u.oneCell' = true
  | [], _, _, k => by rw [k.1]; intro u hu; cases hu
  | a :: as, _, _, ⟨c1, c2, b1, b2, e1, e2, k1, k2⟩ => by
    rw [e1]
    intro u hu
    rcases List.mem_append.1 hu with hu | hu
    · exact VC.ones a k1 u hu
    · exact VCs.ones as k2 u hu
end
section
variable {m : Mem}
theorem VCs.nil : VCs m [] [] [] := ⟨rfl, rfl⟩
theorem VCs.append {as bs : List AV} {c d : List Value} {p q : List Nat} (h : VCs m as c p) (k : VCs m bs d q) : VCs m (as ++ bs) (c ++ d) (p ++ q) := by
  induction as generalizing c p with
  | nil => obtain ⟨rfl, rfl⟩ := h; exact k
  | cons a as ih =>
    obtain ⟨c1, c2, b1, b2, rfl, rfl, h1, h2⟩ := h
    exact ⟨c1, c2 ++ d, b1, b2 ++ q, by simp, by simp, h1, ih h2⟩
theorem VCs.split : (as : List AV) → {bs : List AV} → {c : List Value} → {p : List Nat} → VCs m (as ++ bs) c p → ∃ c1 c2 p1 p2, c = c1 ++ c2 ∧ p = p1 ++ p2 ∧ VCs m as c1 p1 ∧ VCs m bs c2 p2
  | [], _, c, p, h => ⟨[], c, [], p, rfl, rfl, VCs.nil, h⟩
  | a :: as, _, _, _, ⟨c1, c2, b1, b2, e1, e2, h1, h2⟩ => by
    obtain ⟨d1, d2, p1, p2, e3, e4, k1, k2⟩ := VCs.split as h2
    exact ⟨c1 ++ d1, d2, b1 ++ p1, p2, by simp [e1, e3], by simp [e2, e4], ⟨c1, d1, b1, p1, rfl, rfl, h1, k1⟩, k2⟩
theorem VCs.one {a : AV} {c : List Value} {p : List Nat} : VCs m [a] c p ↔ VC m a c p := by
  constructor
  · rintro ⟨c1, c2, b1, b2, rfl, rfl, h1, h2, h3⟩
    subst h2 h3
    simpa using h1
  · intro h; exact ⟨c, [], p, [], by simp, by simp, h, rfl, rfl⟩
theorem widths_app (as bs : List AV) : AV.widths (as ++ bs) = AV.widths as + AV.widths bs := by
  induction as with
  | nil => simp [AV.widths]
  | cons a as ih => simp [AV.widths, ih]; omega
theorem widths_of {l : List AV} {sz : Nat} (h : ∀ e ∈ l, e.width = sz) : AV.widths l = l.length * sz := by
  induction l with
  | nil => simp [AV.widths]
  | cons a l ih => simp [AV.widths, ih (fun e he => h e (by simp [he])), h a (by simp), Nat.add_mul]; omega
/-- One element, and how the rest is put together again round another one. -/
theorem VCs.get {l : List AV} {sz : Nat} (hw : ∀ e ∈ l, e.width = sz) {c : List Value} {p : List Nat} (h : VCs m l c p) {i : Nat} (hi : i < l.length) :
    ∃ c1 c2 c3 p1 p2 p3, c = c1 ++ c2 ++ c3 ∧ p = p1 ++ p2 ++ p3 ∧ c1.length = i * sz ∧ c2.length = sz ∧ VCs m (l.take i) c1 p1 ∧ VC m l[i] c2 p2 ∧ VCs m (l.drop (i + 1)) c3 p3 := by
  have e : l = l.take i ++ ([l[i]] ++ l.drop (i + 1)) := by
    rw [List.singleton_append, ← List.drop_eq_getElem_cons hi, List.take_append_drop]
  rw [e] at h
  obtain ⟨c1, c2, p1, p2, rfl, rfl, h1, h2⟩ := VCs.split _ h
  obtain ⟨c2, c3, p2, p3, rfl, rfl, h2, h3⟩ := VCs.split [l[i]] h2
  rw [VCs.one] at h2
  refine ⟨c1, c2, c3, p1, p2, p3, by simp, by simp, ?_, ?_, h1, h2, h3⟩
  · rw [VCs.len _ h1, widths_of (sz := sz) fun e he => hw e (List.mem_of_mem_take he), List.length_take, Nat.min_eq_left (by omega)]
  · rw [VC.len _ h2]; exact hw _ (List.getElem_mem hi)
theorem VCs.glue {l : List AV} {i : Nat} (hi : i < l.length) {c1 c2 c3 : List Value} {p1 p2 p3 : List Nat} {a : AV} (h1 : VCs m (l.take i) c1 p1) (h2 : VC m a c2 p2) (h3 : VCs m (l.drop (i + 1)) c3 p3) : VCs m (l.set i a) (c1 ++ c2 ++ c3) (p1 ++ p2 ++ p3) := by
  have : l.set i a = l.take i ++ [a] ++ l.drop (i + 1) := by rw [List.set_eq_take_append_cons_drop, if_pos hi]; simp
  rw [this]
  exact (h1.append (VCs.one.2 h2)).append h3
theorem VCs.take {l : List AV} {sz : Nat} (hw : ∀ e ∈ l, e.width = sz) {c : List Value} {p : List Nat} (h : VCs m l c p) {k : Nat} (hk : k ≤ l.length) : ∃ p1 p2, p = p1 ++ p2 ∧ VCs m (l.take k) (c.take (k * sz)) p1 ∧ VCs m (l.drop k) (c.drop (k * sz)) p2 := by
  have h' : VCs m (l.take k ++ l.drop k) c p := by rwa [List.take_append_drop]
  obtain ⟨c1, c2, p1, p2, rfl, rfl, h1, h2⟩ := VCs.split _ h'
  have e : c1.length = k * sz := by rw [VCs.len _ h1, widths_of (sz := sz) fun e he => hw e (List.mem_of_mem_take he), List.length_take, Nat.min_eq_left hk]
  refine ⟨p1, p2, rfl, ?_, ?_⟩
  · rw [← e, List.take_left]; exact h1
  · rw [← e, List.drop_left]; exact h2
end
end Go.Proofs.Ytcfleoaldoebhaa

/-
  Operations over abstract values: new objects, stores. No conditions.
-/
import Derived.Test.YtcfleoaldoebhaaAbs6
import Derived.Great.BuildSlice
import Derived.Laws.MakeOwn
namespace Go.Proofs.Ytcfleoaldoebhaa
set_option linter.unusedVariables false
set_option linter.unusedSimpArgs false
open Go.RowKit

section
variable {P : Program} {m0 m : Mem} {N : Nat} {R : Zs} {ex : List Nat} {X : Nat} {t : TypeId} {sz : Nat} {l : List AV}
theorem keys_cons (z : Slot × List Nat) (R : Zs) : Zs.keys (z :: R) = z.1.1 :: R.keys := rfl
theorem own_cons (z : Slot × List Nat) (R : Zs) : Zs.own (z :: R) = z.2 ++ R.own := rfl
theorem own_one (z : Slot × List Nat) : Zs.own [z] = z.2 := by simp [Zs.own]

/-- A new row at a stamp that was kept. -/
theorem Good.fresh {bs0 : List Nat} (G : Good m0 m N (((X, .gone), bs0) :: R) ex) {arr : Array Value} {cap : Nat} (hv : VCs m l (arr.toList.take (l.length * sz)) []) (harr : arr.size = cap * sz) (hl : l.length ≤ cap) (hcap : cap ≤ maxLen) (hw : ∀ e ∈ l, e.width = sz) (m' : Mem)
    (hm' : m' = ⟨fun y => if y = X then some ⟨m.w.heap.size, cap, sz, false⟩ else m.μ y, fun y => m.U y ∨ y = X, m.w.alloc (.cells arr t), m.F⟩) :
    Good m0 m' N (((X, .row t sz l), [m.w.heap.size]) :: R) ex ∧ m.Le m' := by
  subst hm'
  obtain ⟨rfl, hU⟩ := G.obj _ (List.mem_cons_self ..)
  have hXN := G.keyN X (by simp [keys_cons])
  have hle : m.Le ⟨fun y => if y = X then some ⟨m.w.heap.size, cap, sz, false⟩ else m.μ y, fun y => m.U y ∨ y = X, m.w.alloc (.cells arr t), m.F⟩ := by
    refine ⟨fun y h => .inl h, fun y L hy hL => ?_, fun b hb => ⟨hb, Below.heap_alloc _ _ _ (G.frz b hb)⟩⟩
    simp only at hL
    split at hL
    · rename_i e; subst e; exact absurd hy hU
    · exact hL
  refine ⟨?_, hle⟩
  have ownex := G.own
  rw [own_cons, List.nil_append] at ownex
  refine Good.swap (zs := [((X, .gone), [])]) (zs' := [((X, .row t sz l), [m.w.heap.size])]) G hle (Nat.le_refl _) ?_ ?_ ?_ ?_ ?_ ?_ ?_ ?_ ?_ rfl rfl rfl (by simp)
  · intro y hy _
    have hne : y ≠ X := by intro e; apply hy; simp [Zs.keys, e]
    simp [hne]
  · intro b hb _ _
    exact Below.heap_alloc _ _ _ hb
  · intro z hz
    simp only [List.mem_singleton] at hz
    subst hz
    refine ⟨.inr rfl, ⟨m.w.heap.size, cap, sz, false⟩, by simp, rfl, .inr ⟨rfl, arr, [], rfl, ?_, harr, hl, hcap, hw, VCs.mono hle l (by simp) hv⟩⟩
    exact heap_alloc_new m.w _
  · rw [own_one]
    refine List.nodup_append.2 ⟨by simp, (List.nodup_append.1 ownex).2.1, fun b hb c hc e => ?_⟩
    simp only [List.mem_singleton] at hb
    have := (G.blk c (by simp [hc])).1
    omega
  · intro b hb
    rw [own_one] at hb ⊢
    rcases List.mem_append.1 hb with hb | hb
    · simp only [List.mem_singleton] at hb
      subst hb
      exact ⟨by simp, fun hF => Nat.lt_irrefl _ (G.frz _ hF), .inr (.inr (Nat.le_refl _))⟩
    · have := G.blk b (by simp [hb])
      exact ⟨by have := this.1; simp; omega, this.2, .inr (.inl hb)⟩
  · intro b hb
    exact ⟨by have := G.frz b hb; simp; omega, .inl hb⟩
  · simp [Zs.keys]
  · intro y hy
    simp [Zs.keys] at hy ⊢
    subst hy
    exact ⟨hXN, .inl rfl⟩
  · intro y hy
    simp [Zs.keys]
    rcases hy with hy | rfl
    · exact ⟨G.usedN y hy, .inl hy⟩
    · exact ⟨hXN, .inr (.inl rfl)⟩

/-- The block of a row is written. -/
theorem Good.write {l' : List AV} {bs : List Nat} (G : Good m0 m N (((X, .row t sz l), bs) :: R) ex) {L : Loc} {arr arr' : Array Value} {bs0 bs1 : List Nat} (hL : m.μ X = some L) (hnil : L.isNil = false) (hbs : bs = L.blk :: bs0) (hb : m.w.heap[L.blk]? = some (.cells arr t (0, 0)))
    (harr : arr'.size = L.cap * sz) (hl : l'.length ≤ L.cap) (hcap : L.cap ≤ maxLen) (hsz : L.sz = sz) (hw : ∀ e ∈ l', e.width = sz) (hv : VCs m l' (arr'.toList.take (l'.length * sz)) bs1) (hsub : ∀ b ∈ bs1, b ∈ bs0) (hnd : bs1.Nodup) (m' : Mem) (hm' : m' = { m with w := m.w.setRow L.blk arr' }) :
    Good m0 m' N (((X, .row t sz l'), L.blk :: bs1) :: R) ex ∧ m.Le m' := by
  subst hm'
  have hU := (G.obj _ (List.mem_cons_self ..)).1
  subst hbs
  have ownex := G.own
  rw [own_cons] at ownex
  have hg : L.blk ∉ bs0 := by
    rw [List.append_assoc] at ownex
    exact (List.nodup_cons.1 (List.nodup_append.1 ownex).1).1
  have hgF := (G.blk L.blk (by simp [own_cons])).2
  have hle : m.Le { m with w := m.w.setRow L.blk arr' } := ⟨fun _ h => h, fun _ _ _ h => h, fun b hb' => ⟨hb', setRow_other _ _ _ _ (fun e => hgF (e ▸ hb'))⟩⟩
  have hlt : L.blk < m.w.heap.size := lt_of_block hb
  have hsize : (m.w.setRow L.blk arr').heap.size = m.w.heap.size := by simp [World.setRow]
  refine ⟨?_, hle⟩
  refine Good.swap (zs := [((X, .row t sz l), L.blk :: bs0)]) (zs' := [((X, .row t sz l'), L.blk :: bs1)]) G hle (Nat.le_refl _) (fun _ _ _ => rfl) ?_ ?_ ?_ ?_ ?_ ?_ ?_ ?_ rfl rfl rfl (by rw [show ({ m with w := m.w.setRow L.blk arr' } : Mem).w = m.w.setRow L.blk arr' from rfl, hsize]; exact Nat.le_refl _)
  · intro b _ hb' _
    rw [own_one] at hb'
    exact setRow_other _ _ _ _ (fun e => hb' (by simp [e]))
  · intro z hz
    simp only [List.mem_singleton] at hz
    subst hz
    refine ⟨hU, L, hL, hsz, .inr ⟨hnil, arr', bs1, rfl, setRow_heap _ _ _ _ _ _ hb, harr, hl, hcap, hw, VCs.mono hle l' ?_ hv⟩⟩
    intro b hb'
    exact setRow_other _ _ _ _ (fun e => hg (e ▸ hsub b hb'))
  · rw [own_one]
    have h1 : ((L.blk :: bs0) ++ ex).Nodup := by
      have hp : ((L.blk :: bs0) ++ R.own ++ ex).Perm (((L.blk :: bs0) ++ ex) ++ R.own) := by
        rw [List.append_assoc, List.append_assoc]
        exact List.Perm.append_left _ List.perm_append_comm
      exact (List.nodup_append.1 (hp.nodup_iff.1 ownex)).1
    obtain ⟨h2, h3, h4⟩ := List.nodup_append.1 h1
    refine List.nodup_append.2 ⟨List.nodup_cons.2 ⟨fun h => hg (hsub _ h), hnd⟩, h3, fun b hb' c hc => h4 b ?_ c hc⟩
    rcases List.mem_cons.1 hb' with rfl | hb'
    · simp
    · simp [hsub b hb']
  · intro b hb'
    rw [own_one] at hb' ⊢
    have hin : b ∈ (L.blk :: bs0) ∨ b ∈ ex := by
      rcases List.mem_append.1 hb' with h | h
      · rcases List.mem_cons.1 h with rfl | h
        · simp
        · simp [hsub b h]
      · exact .inr h
    have hbl : b < m.w.heap.size ∧ ¬ m.F b := by
      rcases hin with h | h
      · exact G.blk b (by rw [own_cons]; exact List.mem_append.2 (.inl (List.mem_append.2 (.inl h))))
      · exact G.blk b (by simp [h])
    refine ⟨?_, hbl.2, ?_⟩
    · show b < (m.w.setRow L.blk arr').heap.size
      rw [hsize]; exact hbl.1
    · rcases hin with h | h
      · exact .inl h
      · exact .inr (.inl h)
  · intro b hb'
    refine ⟨?_, .inl hb'⟩
    show b < (m.w.setRow L.blk arr').heap.size
    rw [hsize]; exact G.frz b hb'
  · simp [Zs.keys]
  · intro y hy
    have : y = X := by simpa [Zs.keys] using hy
    subst this
    exact ⟨G.keyN y (by simp [keys_cons]), .inl (by simp [Zs.keys])⟩
  · intro y hy
    exact ⟨G.usedN y hy, .inl hy⟩

variable {o : Oper} {v : AV} {x y z : Operand} {ty ty2 t' : TypeId} {pos : String} {after : Array Edge} {g : Option (Nat × Bool)} {dst : Option Tmp} {xs : List (Operand × AV)} {p : Nat}
theorem OpT.new_ (h : ∀ (m : Mem) (a : Act), (∀ q ∈ xs, VV m q.2 (a.eval q.1) []) → ∃ arr cap u, (execOp a.eval o).run P m.w = .ok (.value u) (m.w.alloc (.cells arr t)) ∧ arr.size = cap * sz ∧ l.length ≤ cap ∧ cap ≤ maxLen ∧ (∀ e ∈ l, e.width = sz) ∧ VCs m l (arr.toList.take (l.length * sz)) [] ∧
      ((v = .ptr X 0 0 ∧ u = .pointer (some ⟨m.w.heap.size, 0, none⟩)) ∨ ∃ len, v = .sl X 0 len ∧ len ≤ cap ∧ u = .slice (some ⟨m.w.heap.size, 0, none⟩) len cap)) : OpT P o xs [(p, (X, .gone))] v [(p, (X, .row t sz l))] := by
  intro nt m0 T S a w hx hS hd hr
  obtain ⟨m, N, Z, rfl, h2, h3, h4⟩ := hr
  have h2' : Z.map (·.1) = S := h2
  obtain ⟨arr, cap, u, h5, h6, h7, h8, h9, h10, h11⟩ := h m a (fun q hq => h4.ev (hx q hq))
  have hSp := hS (p, (X, .gone)) (by simp)
  rw [← h2', List.getElem?_map] at hSp
  cases hz : Z[p]? with
  | none => rw [hz] at hSp; cases hSp
  | some z =>
    rw [hz] at hSp
    simp only [Option.map_some, Option.some.injEq] at hSp
    obtain ⟨z1, z2⟩ := z
    simp only at hSp
    subst hSp
    obtain ⟨R, hp1, hp2⟩ := perm_get hz
    obtain ⟨G', hle⟩ := Good.fresh (t := t) (h3.perm hp1) h10 h6 h7 h8 h9 _ rfl
    unfold Oper.wp
    rw [h5]
    refine ⟨_, N, Z.set p ((X, .row t sz l), [m.w.heap.size]), rfl, ?_, G'.perm (hp2 _).symm, (h4.mono hle).put hd ?_⟩
    · rw [List.map_set, h2']; rfl
    · rcases h11 with ⟨rfl, rfl⟩ | ⟨len, rfl, hlen, rfl⟩
      · refine ⟨rfl, .inr rfl, _, rfl, fun L hL => ?_⟩
        simp only [if_true, Option.some.injEq] at hL
        subst hL
        simp
      · refine ⟨rfl, .inr rfl, _, _, rfl, fun L hL => ?_⟩
        simp only [if_true, Option.some.injEq] at hL
        subst hL
        exact .inr ⟨rfl, by simpa using hlen, 0, by simp, fun _ => by simp⟩

theorem OpT.box (hs : v.stor = true) : OpT P ⟨dst, .box t x, ty, pos, after, g⟩ [(x, v)] [(p, (X, .gone))] (.ptr X 0 0) [(p, (X, .row t v.width [v]))] :=
  .new_ fun m a hx => by
    have h2 : VC m v (a.eval x).cells.toList [] := VV.vc (hx (x, v) (by simp)) hs
    have hl := VC.len _ h2
    refine ⟨(a.eval x).cells, 1, .pointer (some ⟨m.w.heap.size, 0, none⟩), ?_, by simpa using hl, by simp, by decide, by simp, ?_, .inl ⟨rfl, rfl⟩⟩
    · simp [execOp, Instr.box, newVar, newRow, newObj, Sem.run_bind, Sem.run, Result.andThen_ok]
    · rw [List.take_of_length_le (by simp at hl ⊢; omega)]
      exact VCs.one.2 h2

def ones : List Value → Bool
  | [] => true
  | u :: l => u.oneCell' && ones l
theorem ones_spec {l : List Value} (h : ones l = true) : ∀ u ∈ l, u.oneCell' = true := by
  induction l with
  | nil => intro u hu; cases hu
  | cons a l ih =>
    simp only [ones, Bool.and_eq_true] at h
    intro u hu
    rcases List.mem_cons.1 hu with rfl | hu
    · exact h.1
    · exact ih h.2 u hu
/-- The cells of a type's zero value. -/
def tZ (P : Program) (t : TypeId) : Option (List Value) := (P.info? t).bind fun i => i.zero.bind fun z => match ones z.cells.toList with | true => some z.cells.toList | false => none
/-- The zero value as an abstract one. -/
def zAV (zl : List Value) (ag : Bool) : AV := match ag, zl with
  | false, u :: _ => .prim u
  | _, zl => .agg (zl.map .prim)
theorem prims_width (zl : List Value) : AV.widths (zl.map .prim) = zl.length := by
  induction zl with
  | nil => rfl
  | cons u zl ih => simp [AV.widths, AV.width, ih]; omega
theorem zAV_vc (m : Mem) {zl : List Value} {ag : Bool} (h1 : ∀ u ∈ zl, u.oneCell' = true) (h : ag = true ∨ zl.length = 1) : VC m (zAV zl ag) zl [] := by
  cases ag
  · rcases h with h | h
    · cases h
    · obtain ⟨u, rfl⟩ := List.length_eq_one_iff.1 h
      exact ⟨⟨rfl, h1 u (by simp)⟩, rfl⟩
  · exact prims_vcs m zl h1
theorem tZ_spec {t : TypeId} {zl : List Value} (h : tZ P t = some zl) : ∃ i zv, P.info? t = some i ∧ i.zero = some zv ∧ zv.cells.toList = zl ∧ ∀ u ∈ zl, u.oneCell' = true := by
  unfold tZ at h
  cases hi : P.info? t with
  | none => rw [hi] at h; cases h
  | some i =>
    rw [hi] at h
    simp only [Option.bind_some] at h
    cases hzz : i.zero with
    | none => rw [hzz] at h; cases h
    | some zv =>
      rw [hzz] at h
      simp only [Option.bind_some] at h
      split at h
      · rename_i ho
        injection h with h
        exact ⟨i, zv, rfl, hzz, h, h ▸ ones_spec ho⟩
      · cases h
theorem OpT.alloc {zl : List Value} {ag : Bool} (hz : tZ P t = some zl) (h : ag = true ∨ zl.length = 1) : OpT P ⟨dst, .alloc t, ty, pos, after, g⟩ [] [(p, (X, .gone))] (.ptr X 0 0) [(p, (X, .row t zl.length [zAV zl ag]))] :=
  .new_ fun m a hx => by
    obtain ⟨i, zv, hi, hzz, hz, ho⟩ := tZ_spec hz
    have hv := zAV_vc m ho h
    have hl := VC.len _ hv
    refine ⟨zv.cells, 1, .pointer (some ⟨m.w.heap.size, 0, none⟩), ?_, by rw [← hz]; simp, by simp, by decide, by simpa using hl.symm, ?_, .inl ⟨rfl, rfl⟩⟩
    · simp [execOp, Instr.alloc, zeroValue, typeInfo, hi, hzz, newVar, newRow, newObj, Sem.run_bind, Sem.run, Result.andThen_ok]
    · rw [hz, List.take_of_length_le (by simp)]
      exact VCs.one.2 hv
end
end Go.Proofs.Ytcfleoaldoebhaa

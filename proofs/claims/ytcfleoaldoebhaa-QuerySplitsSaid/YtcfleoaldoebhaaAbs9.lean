/-
  Code over abstract states: sequences, branches, loops; functions and calls. No conditions.
-/
import Derived.Test.YtcfleoaldoebhaaAbs8
namespace Go.Proofs.Ytcfleoaldoebhaa
set_option linter.unusedVariables false
variable {ro : Option Nat}
set_option linter.unusedSimpArgs false
open Go.RowKit

/-- What follows code that ends normally. -/
def andThen (K : St → Prop) (Q : Exit → St → Prop) : Exit → St → Prop
  | .normal, st => K st
  | e, st => Q e st
def inB (id : Nat) (Q : Exit → St → Prop) : Exit → St → Prop
  | .exit i, st => match Nat.beq i id with
    | true => Q .normal st
    | false => Q (.exit i) st
  | e, st => Q e st

inductive Looks (T : List (Nat × AV)) : List (Nat × AV) → Prop
  | nil : Looks T []
  | cons {d : Nat} {v : AV} {r : List (Nat × AV)} (h : look T d = some v) (k : Looks T r) : Looks T ((d, v) :: r)
theorem Looks.all {T T' : List (Nat × AV)} (h : Looks T T') : ∀ d v, look T' d = some v → look T d = some v := by
  induction h with
  | nil => intro d v h; cases h
  | cons h k ih =>
    intro d v hd
    rw [look_cons] at hd
    split at hd
    · rename_i e; subst e; injection hd with hd; subst hd; exact h
    · exact ih d v hd

section
variable {P : Program} {nt : Nat} {Q Q' : Exit → St → Prop} {st : St} {c d : Code}
theorem AWP.mono (h : AWP ro P nt c Q st) (hq : ∀ e st, Q e st → Q' e st) : AWP ro P nt c Q' st :=
  fun m0 a w hr => wpIn_mono (h m0 a w hr) fun e a w ⟨st', h1, h2⟩ => ⟨st', h1, hq _ _ h2⟩
theorem AWP.skip (h : Q .normal st) : AWP ro P nt .skip Q st := fun m0 a w hr => wpIn_skip ⟨st, hr, h⟩
theorem AWP.exit {id : Nat} (h : Q (.exit id) st) : AWP ro P nt (.exit id) Q st := fun m0 a w hr => wpIn_exit ⟨st, hr, h⟩
theorem AWP.ret (h : Q .ret st) : AWP ro P nt .ret Q st := fun m0 a w hr => wpIn_ret ⟨st, hr, h⟩
theorem AWP.seq (h : AWP ro P nt c (andThen (AWP ro P nt d Q) Q) st) : AWP ro P nt (.seq c d) Q st :=
  fun m0 a w hr => wpIn_seq (wpIn_mono (h m0 a w hr) fun e a' w' ⟨st', h1, h2⟩ => by
    cases e with
    | normal => exact h2 m0 a' w' h1
    | _ => exact ⟨st', h1, h2⟩)
theorem AWP.block {id : Nat} (h : AWP ro P nt c (inB id Q) st) : AWP ro P nt (.block id c) Q st :=
  fun m0 a w hr => wpIn_block (wpIn_mono (h m0 a w hr) fun e a' w' ⟨st', h1, h2⟩ => by
    cases e with
    | exit i =>
      simp only [Exit.inBlock, inB] at h2 ⊢
      by_cases e : i = id
      · subst e
        simp only [Nat.beq_refl] at h2
        rw [if_pos rfl]
        exact ⟨st', h1, h2⟩
      · have : Nat.beq i id = false := Bool.eq_false_iff.2 fun hb => e (Nat.eq_of_beq_eq_true hb)
        simp only [this] at h2
        rw [if_neg e]
        exact ⟨st', h1, h2⟩
    | _ => exact ⟨st', h1, h2⟩)
theorem AWP.cond {x : Operand} {b : Bool} (hx : ev st.T x = some (.prim (.bool b))) (ht : b = true → AWP ro P nt c Q st) (hf : b = false → AWP ro P nt d Q st) : AWP ro P nt (.cond x c d) Q st :=
  fun m0 a w hr => by
    obtain ⟨m, N, Z, h1, h2, h3, h4⟩ := id hr
    have hb := (h4.ev hx).prim
    cases b
    · exact wpIn_cond_false hb (hf rfl m0 a w hr)
    · exact wpIn_cond_true hb (ht rfl m0 a w hr)
theorem AWP.cond_t {x : Operand} {b : Bool} (hx : ev st.T x = some (.prim (.bool b))) (hb : b = true) (ht : AWP ro P nt c Q st) : AWP ro P nt (.cond x c d) Q st := .cond hx (fun _ => ht) (fun h => by rw [hb] at h; cases h)
theorem AWP.cond_f {x : Operand} {b : Bool} (hx : ev st.T x = some (.prim (.bool b))) (hb : b = false) (hf : AWP ro P nt d Q st) : AWP ro P nt (.cond x c d) Q st := .cond hx (fun h => by rw [hb] at h; cases h) (fun _ => hf)

/-! ### weakening -/
theorem Good.sub {m0 m : Mem} {N : Nat} {Z Z' : Zs} {ex : List Nat} (G : Good m0 m N Z ex) (h : Z'.Sublist Z) : Good m0 m N Z' ex := by
  have ho : (Z'.own).Sublist Z.own := by
    clear G
    unfold Zs.own
    induction h with
    | slnil => exact List.Sublist.refl _
    | cons a _ ih => rw [List.flatMap_cons]; exact ih.trans (List.sublist_append_right _ _)
    | cons_cons a _ ih => rw [List.flatMap_cons, List.flatMap_cons]; exact ih.append_left _
  exact ⟨fun z hz => G.obj z (h.subset hz), G.own.sublist (ho.append_right _), fun b hb => G.blk b ((ho.append_right _).subset hb), G.frz, G.keys.sublist (h.map _), fun x hx => G.keyN x ((h.map _).subset hx), G.usedN, G.le, G.os, G.tape, G.output, G.size⟩
theorem sub_lift {α β : Type} (f : β → α) {S S' : List α} (h : S'.Sublist S) : ∀ {Z : List β}, Z.map f = S → ∃ Z' : List β, Z'.Sublist Z ∧ Z'.map f = S' := by
  induction h with
  | slnil => intro Z hZ; exact ⟨[], List.nil_sublist _, rfl⟩
  | cons a h ih =>
    intro Z hZ
    cases Z with
    | nil => cases hZ
    | cons z Z =>
      injection hZ with h1 h2
      obtain ⟨Z', h3, h4⟩ := ih h2
      exact ⟨Z', h3.cons z, h4⟩
  | cons_cons a h ih =>
    intro Z hZ
    cases Z with
    | nil => cases hZ
    | cons z Z =>
      injection hZ with h1 h2
      obtain ⟨Z', h3, h4⟩ := ih h2
      exact ⟨z :: Z', h3.cons_cons z, by simp [h1, h4]⟩
/-- A state of which less is known. -/
structure St.Le (st st' : St) : Prop where
  T : Looks st.T st'.T
  S : st'.S.Sublist st.S
theorem Rel.weak {m0 : Mem} {st st' : St} {a : Act} {w : World} (h : Rel nt m0 st a w) (k : st.Le st') : Rel nt m0 st' a w := by
  obtain ⟨m, N, Z, h1, h2, h3, h4, h5, h6⟩ := h
  obtain ⟨Z', hs, hm⟩ := sub_lift _ k.S h2
  exact ⟨m, N, Z', h1, hm, h3.sub hs, h4, h5, fun d v hd => h6 d v (k.T.all d v hd)⟩
theorem AWP.weak {st' : St} (k : st.Le st') (h : AWP ro P nt c Q st') : AWP ro P nt c Q st := fun m0 a w hr => h m0 a w (hr.weak k)
theorem AOps.weak {ops : Array Oper} {rest : List Oper} {st' : St} (k : st.Le st') (h : AOps ro P nt ops Q rest st') : AOps ro P nt ops Q rest st := fun m0 a w hr => h m0 a w (hr.weak k)
theorem least_ex (p : Nat → Prop) : ∀ n, p n → ∃ k, p k ∧ ∀ j, p j → k ≤ j := by
  intro n
  induction n using Nat.strongRecOn with
  | _ n ih =>
    intro hn
    by_cases h : ∃ j, j < n ∧ p j
    · obtain ⟨j, hj, hp⟩ := h
      exact ih j hj hp
    · exact ⟨n, hn, fun j hj => Nat.le_of_not_lt fun hlt => h ⟨j, hlt, hj⟩⟩
/-- A loop: the states 'inv b', b of some kind, each round leading to a lesser one. -/
theorem AWP.loop {β : Type} (inv : β → St) (μ : β → Nat) (b0 : β) (h0 : st.Le (inv b0)) (round : ∀ b, AWP ro P nt c (andThen (fun st' => ∃ b', μ b' < μ b ∧ st'.Le (inv b')) Q) (inv b)) : AWP ro P nt (.loop c) Q st := by
  intro m0 a w hr
  classical
  let I : Nat → Act → World → Prop := fun n a w => ∃ b, μ b = n ∧ Rel nt m0 (inv b) a w
  refine wpIn_loop (fun a w => ∃ n, I n a w) (fun a w => if h : ∃ k, I k a w ∧ ∀ j, I j a w → k ≤ j then Classical.choose h else 0) ⟨μ b0, b0, rfl, hr.weak h0⟩ fun a w hI => ?_
  have hL : ∃ k, I k a w ∧ ∀ j, I j a w → k ≤ j := least_ex (fun n => I n a w) _ hI.choose_spec
  obtain ⟨b, hb, hrb⟩ := (Classical.choose_spec hL).1
  refine wpIn_mono (round b m0 a w hrb) fun e a' w' ⟨st', h1, h2⟩ => ?_
  cases e with
  | normal =>
    obtain ⟨b', hlt, hle⟩ := h2
    have hI' : ∃ n, I n a' w' := ⟨μ b', b', rfl, h1.weak hle⟩
    have hL' : ∃ k, I k a' w' ∧ ∀ j, I j a' w' → k ≤ j := least_ex (fun n => I n a' w') _ ⟨b', rfl, h1.weak hle⟩
    refine ⟨hI', ?_⟩
    simp only [dif_pos hL, dif_pos hL']
    have h5 : Classical.choose hL' ≤ μ b' := (Classical.choose_spec hL').2 _ ⟨b', rfl, h1.weak hle⟩
    omega
  | _ => exact ⟨st', h1, h2⟩

/-! ### functions -/
def isFn (P : Program) (f : FuncId) : Bool := match P.funcs[f]? with
  | some fn => !(fn.name == "runtime.NumGoroutine") && fn.body.isSome
  | none => false
/-- What a function does: from arguments that read as args, and objects S among others, it returns a value r and leaves the objects S', as Q says. -/
structure Spec (P : Program) (f : FuncId) (args : List AV) (S : List Slot) (Q : AV → List Slot → Prop) : Prop where
  fn : isFn P f = true
  run : ∀ (Sf : List Slot) (m : Mem) (N : Nat) (Z : Zs) (vals : Array Value), Z.map (·.1) = S ++ Sf → Good m m N Z [] → VTs m args vals.toList [] →
    Calls P f vals m.w fun e w' => ∃ v r S' m' N' Z' br, e = .returned v ∧ m'.w = w' ∧ Z'.map (·.1) = S' ++ Sf ∧ Good m m' N' Z' br ∧ VV m' r v br ∧ Q r S'
/-- A function that only computes. -/
def PS (P : Program) (f : FuncId) (args : List AV) (r : AV) : Prop := Spec P f args [] fun r' S' => r' = r ∧ S' = []
theorem Spec.mono {f : FuncId} {args : List AV} {S : List Slot} {Q Q' : AV → List Slot → Prop} (h : Spec P f args S Q) (hq : ∀ r S', Q r S' → Q' r S') : Spec P f args S Q' :=
  ⟨h.fn, fun Sf m N Z vals h1 h2 h3 => (h.run Sf m N Z vals h1 h2 h3).mono fun e w' ⟨v, r, S', m', N', Z', br, a, b, c, d, e, q⟩ => ⟨v, r, S', m', N', Z', br, a, b, c, d, e, hq _ _ q⟩⟩

theorem Good.self {m0 m : Mem} {N : Nat} {Z : Zs} {ex : List Nat} (G : Good m0 m N Z ex) : Good m m N Z ex :=
  ⟨G.obj, G.own, G.blk, G.frz, G.keys, G.keyN, G.usedN, .refl _, rfl, rfl, rfl, Nat.le_refl _⟩
theorem Good.after {m0 m m' : Mem} {N N' : Nat} {Z Z' : Zs} {ex ex' : List Nat} (G : Good m0 m N Z ex) (G' : Good m m' N' Z' ex') : Good m0 m' N' Z' ex' :=
  ⟨G'.obj, G'.own, G'.blk, G'.frz, G'.keys, G'.keyN, G'.usedN, G.le.trans G'.le, G'.os.trans G.os, G'.tape.trans G.tape, G'.output.trans G.output, Nat.le_trans G.size G'.size⟩
/-- What a value owns is frozen. -/
theorem Good.freeze {m0 m : Mem} {N : Nat} {Z : Zs} {ex ex' : List Nat} (G : Good m0 m N Z (ex ++ ex')) (m' : Mem) (hm : m' = { m with F := fun b => m.F b ∨ b ∈ ex }) : Good m0 m' N Z ex' ∧ m.Le m' := by
  subst hm
  have hle : m.Le { m with F := fun b => m.F b ∨ b ∈ ex } := ⟨fun _ h => h, fun _ _ _ h => h, fun b hb => ⟨.inl hb, rfl⟩⟩
  refine ⟨?_, hle⟩
  have := Good.swap (zs := []) (zs' := []) (R := Z) (m' := { m with F := fun b => m.F b ∨ b ∈ ex }) (N' := N) (ex' := ex') G hle (Nat.le_refl _) (fun _ _ _ => rfl) (fun _ _ _ _ => rfl) (fun z hz => by cases hz)
    (by have := (List.nodup_append.1 (List.nodup_append.1 G.own).2.1).2.1; simpa [Zs.own] using this)
    (fun b hb => by
      have hb' : b ∈ ex' := by simpa [Zs.own] using hb
      have h1 := G.blk b (by simp [hb'])
      refine ⟨h1.1, ?_, .inr (.inl (by simp [hb']))⟩
      rintro (h | h)
      · exact h1.2 h
      · exact (List.nodup_append.1 (List.nodup_append.1 G.own).2.1).2.2 b h b hb' rfl)
    (fun b hb => by
      rcases hb with h | h
      · exact ⟨G.frz b h, .inl h⟩
      · exact ⟨(G.blk b (by simp [h])).1, .inr (.inr (.inl (by simp [h])))⟩)
    (by simp [Zs.keys]) (fun x hx => by simp [Zs.keys] at hx) (fun x hx => ⟨G.usedN x hx, .inl hx⟩) rfl rfl rfl (Nat.le_refl _)
  simpa using this

variable {o : Oper} {x : Operand} {ty : TypeId} {pos : String} {after : Array Edge} {g : Option (Nat × Bool)} {dst : Option Tmp} {xs : List (Operand × AV)} {f : FuncId} {ats : Array TypeId} {r : AV}
theorem wp_call {a : Act} {w : World} {args : Array Operand} {K : Act → World → Prop} (ha : ∀ f, a.eval (.func f) = .func (.func f) #[] #[]) (hf : isFn P f = true)
    (h : Calls P f (args.map a.eval) w fun e w' => ∃ v, e = .returned v ∧ K (a.put dst v) w') : Oper.wp P ⟨dst, .call ⟨.value (.func f), args, ats⟩, ty, pos, after, g⟩ a w K (fun _ _ _ => False) := by
  unfold isFn at hf
  have hrun : (execOp a.eval ⟨dst, .call ⟨.value (.func f), args, ats⟩, ty, pos, after, g⟩).run P w = .ok (.enter f (args.map a.eval)) w := by
    split at hf
    · rename_i fn hfn
      simp only [Bool.and_eq_true, Bool.not_eq_true'] at hf
      have hb : fn.body.isNone = false := by
        cases hfb : fn.body with
        | none => rw [hfb] at hf; simp at hf
        | some c => rfl
      have h1 : ¬ fn.name = "runtime.NumGoroutine" := by simpa using hf.1
      have h2 : ¬ fn.body = none := by intro h; rw [h] at hb; cases hb
      simp [execOp, resolve, ha, Deferred.ofValue, invoke, callFunc, program, Sem.run_bind, Sem.run, Result.andThen_ok, hfn, h1, h2]
    · cases hf
  unfold Oper.wp
  rw [hrun]
  simp only [Oper.upon]
  refine h.mono fun e w' ⟨v, he, hk⟩ => ?_
  subst he
  exact hk
theorem vts_of {m : Mem} {ρ : Operand → Value} : ∀ {xs : List (Operand × AV)}, (∀ q ∈ xs, ntup q.2 = true) → (∀ q ∈ xs, VV m q.2 (ρ q.1) []) → VTs m (xs.map (·.2)) (xs.map fun q => ρ q.1) []
  | [], _, _ => ⟨rfl, rfl⟩
  | q :: xs, ht, h => (VTs_cons (ht q (by simp))).2 ⟨ρ q.1, _, [], [], rfl, rfl, h q (by simp), vts_of (fun q hq => ht q (by simp [hq])) fun q hq => h q (by simp [hq])⟩
def noTup : List (Operand × AV) → Bool
  | [] => true
  | q :: r => ntup q.2 && noTup r
theorem noTup_spec {xs : List (Operand × AV)} (h : noTup xs = true) : ∀ q ∈ xs, ntup q.2 = true := by
  induction xs with
  | nil => intro q hq; cases hq
  | cons a xs ih =>
    simp only [noTup, Bool.and_eq_true] at h
    intro q hq
    rcases List.mem_cons.1 hq with rfl | hq
    · exact h.1
    · exact ih h.2 q hq
/-- A call of a function that only computes; what it returns is frozen. -/
theorem OpT.call (h : PS P f (xs.map (·.2)) r) (ht : noTup xs = true := by rfl) : OpT P ⟨dst, .call ⟨.value (.func f), (xs.map (·.1)).toArray, ats⟩, ty, pos, after, g⟩ xs [] r.frz [] := by
  intro nt m0 T S a w hx hS hd hr
  obtain ⟨m, N, Z, rfl, h2, h3, h4⟩ := hr
  refine wp_call (fun _ => rfl) h.fn ?_
  refine (h.run S m N Z _ h2 h3.self (by have := vts_of (noTup_spec ht) fun q hq => h4.ev (hx q hq); simpa [Function.comp_def] using this)).mono ?_
  rintro e w' ⟨v, r', S', m', N', Z', br, rfl, rfl, hm, G', hv, rfl, rfl⟩
  obtain ⟨G2, hle⟩ := Good.freeze (ex := br) (ex' := []) (by simpa using h3.after G') _ rfl
  exact ⟨v, rfl, { m' with F := fun b => m'.F b ∨ b ∈ br }, N', Z', rfl, hm, G2, ((h4.mono G'.le).mono hle).put hd (VV.frz hle (fun b hb => ⟨.inr hb, rfl⟩) hv)⟩

/-! ### what a function returns -/
inductive CC : List Slot → AV → AV → List Slot → Prop
  | same {S : List Slot} {a : AV} : CC S a a S
  | sl {S : List Slot} {p X n sz : Nat} {t : TypeId} {l : List AV} (h : At S p (X, .row t sz l)) (hn : n = l.length) : CC S (.sl X 0 n) (.lst true t sz l) (S.eraseIdx p)
  | ptr {S : List Slot} {p X sz : Nat} {t : TypeId} {a : AV} (h : At S p (X, .row t sz [a])) : CC S (.ptr X 0 0) (.bx t a) (S.eraseIdx p)
  | nil {S : List Slot} {o : Bool} {t : TypeId} {sz : Nat} : CC S (.prim (.slice none 0 0)) (.lst o t sz []) S
inductive CCs : List Slot → List AV → List AV → List Slot → Prop
  | nil {S : List Slot} : CCs S [] [] S
  | cons {S S1 S2 : List Slot} {a b : AV} {as bs : List AV} (h : CC S a b S1) (k : CCs S1 as bs S2) : CCs S (a :: as) (b :: bs) S2
inductive CV : List Slot → AV → AV → List Slot → Prop
  | cell {S S' : List Slot} {a b : AV} (h : CC S a b S') : CV S a b S'
  | agg {S S' : List Slot} {as bs : List AV} (h : CCs S as bs S') : CV S (.agg as) (.agg bs) S'
inductive CVs : List Slot → List AV → List AV → List Slot → Prop
  | nil {S : List Slot} : CVs S [] [] S
  | cons {S S1 S2 : List Slot} {a b : AV} {as bs : List AV} (h : CV S a b S1) (k : CVs S1 as bs S2) : CVs S (a :: as) (b :: bs) S2

theorem perm_erase {α : Type} {l : List α} {p : Nat} {z : α} (h : l[p]? = some z) : l.Perm (z :: l.eraseIdx p) := by
  induction l generalizing p with
  | nil => simp at h
  | cons a l ih =>
    cases p with
    | zero => simp at h; subst h; exact .refl _
    | succ p => exact ((ih (p := p) (by simpa using h)).cons a).trans (List.Perm.swap ..)
theorem map_erase {α β : Type} (f : α → β) (l : List α) (p : Nat) : (l.eraseIdx p).map f = (l.map f).eraseIdx p := by
  induction l generalizing p with
  | nil => rfl
  | cons a l ih => cases p with
    | zero => rfl
    | succ p => simp [ih]
/-- An object is taken out of the state; what it owned is on the side. -/
theorem Good.take {m0 m : Mem} {N : Nat} {Z : Zs} {ex : List Nat} (G : Good m0 m N Z ex) {p : Nat} {z : Slot × List Nat} (h : Z[p]? = some z) : Good m0 m N (Z.eraseIdx p) (ex ++ z.2) ∧ ORel m z.1.1 z.1.2 z.2 := by
  have hp := perm_erase h
  have G1 := G.perm hp
  have hs : (Z.eraseIdx p).Sublist (z :: Z.eraseIdx p) := List.sublist_cons_self _ _
  have hP : (Zs.own (z :: Z.eraseIdx p) ++ ex).Perm (Zs.own (Z.eraseIdx p) ++ (ex ++ z.2)) := by
    rw [own_cons, List.append_assoc]
    refine List.perm_append_comm.trans ?_
    rw [List.append_assoc]
  refine ⟨⟨fun y hy => G1.obj y (hs.subset hy), hP.nodup_iff.1 G1.own, fun b hb => G1.blk b (hP.mem_iff.2 hb), G1.frz, G1.keys.sublist (hs.map _), fun x hx => G1.keyN x ((hs.map _).subset hx), G1.usedN, G1.le, G1.os, G1.tape, G1.output, G1.size⟩, G1.obj z (List.mem_cons_self ..)⟩
theorem At.z {Z : Zs} {S : List Slot} {p : Nat} {e : Slot} (h : At S p e) (hm : Z.map (·.1) = S) : ∃ bs, Z[p]? = some (e, bs) := by
  have := h.get
  rw [← hm, List.getElem?_map] at this
  cases hz : Z[p]? with
  | none => rw [hz] at this; cases this
  | some z =>
    rw [hz] at this
    simp only [Option.map_some, Option.some.injEq] at this
    exact ⟨z.2, by rw [← this]⟩
section
variable {m0 m : Mem} {N : Nat}
theorem CC.sound {S S' : List Slot} {a b : AV} (h : CC S a b S') : ∀ {Z : Zs} {ex : List Nat} {c : List Value}, Good m0 m N Z ex → Z.map (·.1) = S → VC m a c [] → ∃ Z' br, Z'.map (·.1) = S' ∧ Good m0 m N Z' (ex ++ br) ∧ VC m b c br := by
  intro Z ex c G hm hv
  cases h with
  | same => exact ⟨Z, [], hm, by simpa using G, hv⟩
  | nil =>
    rename_i o t sz
    obtain ⟨⟨rfl, _⟩, _⟩ := hv
    refine ⟨Z, [], hm, by simpa using G, ?_⟩
    cases o
    · exact ⟨rfl, none, 0, rfl, Nat.le_refl _, by simp, fun h => by simp at h⟩
    · exact .inl ⟨rfl, rfl, rfl⟩
  | sl hA hn =>
    rename_i p X n sz t l
    subst hn
    obtain ⟨bs, hz⟩ := hA.z hm
    obtain ⟨G', hU, L, hL, hsz, hO⟩ := G.take hz
    refine ⟨Z.eraseIdx p, bs, by rw [map_erase, hm], G', ?_⟩
    obtain ⟨_, _, A, q, rfl, hs⟩ := hv
    rcases hs L hL with ⟨h1, h2, _, h3⟩ | ⟨h1, h2, o, h3, h4⟩
    · rcases hO with ⟨_, rfl, rfl⟩ | ⟨h5, _⟩
      · exact .inl ⟨by rw [h2], rfl, rfl⟩
      · rw [h1] at h5; cases h5
    · rcases hO with ⟨h5, _⟩ | ⟨_, arr, bs', rfl, h6, h7, h8, h9, h10, h11⟩
      · rw [h1] at h5; cases h5
      · have := h4 (.inr rfl)
        rw [Nat.zero_mul] at this
        subst this
        refine .inr ⟨L.blk, L.cap, arr, bs', by rw [h3, Nat.sub_zero], rfl, h6, h7, h8, h9, h10, h11⟩
  | ptr hA =>
    rename_i p X sz t e
    obtain ⟨bs, hz⟩ := hA.z hm
    obtain ⟨G', hU, L, hL, hsz, hO⟩ := G.take hz
    refine ⟨Z.eraseIdx p, bs, by rw [map_erase, hm], G', ?_⟩
    obtain ⟨_, _, A, rfl, hs⟩ := hv
    have hA' := hs L hL
    rcases hO with ⟨_, h5, _⟩ | ⟨_, arr, bs', rfl, h6, h7, h8, h9, h10, h11⟩
    · cases h5
    · have hw : e.width = sz := h10 e (by simp)
      refine ⟨L.blk, arr, bs', by rw [hA']; simp, rfl, h6, ⟨L.cap, by rw [hw]; exact h7, h8, h9⟩, ?_⟩
      rw [hw]
      simpa using VCs.one.1 h11
theorem CCs.sound {S S' : List Slot} {as bs : List AV} (h : CCs S as bs S') : ∀ {Z : Zs} {ex : List Nat} {c : List Value}, Good m0 m N Z ex → Z.map (·.1) = S → VCs m as c [] → ∃ Z' br, Z'.map (·.1) = S' ∧ Good m0 m N Z' (ex ++ br) ∧ VCs m bs c br := by
  induction h with
  | nil => intro Z ex c G hm hv; exact ⟨Z, [], hm, by simpa using G, hv⟩
  | cons h k ih =>
    intro Z ex c G hm hv
    obtain ⟨c1, c2, b1, b2, rfl, e, h1, h2⟩ := hv
    obtain ⟨rfl, rfl⟩ : b1 = [] ∧ b2 = [] := by simpa using e.symm
    obtain ⟨Z1, br1, hm1, G1, hv1⟩ := h.sound G hm h1
    obtain ⟨Z2, br2, hm2, G2, hv2⟩ := ih G1 hm1 h2
    exact ⟨Z2, br1 ++ br2, hm2, by simpa using G2, c1, c2, br1, br2, rfl, rfl, hv1, hv2⟩
def cellish : AV → Bool
  | .agg _ | .tup _ | .dead | .opt .. => false
  | _ => true
theorem VV.of_vc {a : AV} {u : Value} {bs : List Nat} (h : cellish a = true) : VV m a u bs ↔ VC m a [u] bs := by
  cases a <;> first | exact Iff.rfl | (simp [cellish] at h)
theorem CC.cellish {S S' : List Slot} {a b : AV} (h : CC S a b S') : a = b ∨ (cellish a = true ∧ cellish b = true) := by
  cases h with
  | same => exact .inl rfl
  | _ => exact .inr ⟨rfl, rfl⟩
theorem CV.sound {S S' : List Slot} {a b : AV} (h : CV S a b S') : ∀ {Z : Zs} {ex : List Nat} {u : Value}, Good m0 m N Z ex → Z.map (·.1) = S → VV m a u [] → ∃ Z' br, Z'.map (·.1) = S' ∧ Good m0 m N Z' (ex ++ br) ∧ VV m b u br := by
  intro Z ex u G hm hv
  cases h with
  | cell h =>
    cases h with
    | same => exact ⟨Z, [], hm, by simpa using G, hv⟩
    | sl h1 h2 => exact CC.sound (.sl h1 h2) G hm hv
    | ptr h1 => exact CC.sound (.ptr h1) G hm hv
    | nil =>
      rename_i o t sz
      have := CC.sound (.nil (o := o) (t := t) (sz := sz)) G hm ((VV.of_vc rfl).1 hv)
      exact this
  | agg h =>
    obtain ⟨cells, rfl, hv⟩ := hv
    obtain ⟨Z', br, h1, h2, h3⟩ := h.sound G hm hv
    exact ⟨Z', br, h1, h2, cells, rfl, h3⟩
theorem CV.tup {S S' : List Slot} {a b : AV} (h : CV S a b S') (ha : ntup a = true) : ntup b = true := by
  cases h with
  | cell h => cases h with
    | same => exact ha
    | _ => rfl
  | agg h => rfl
theorem CVs.sound {S S' : List Slot} {as bs : List AV} (h : CVs S as bs S') : ∀ {Z : Zs} {ex : List Nat} {us : List Value}, Good m0 m N Z ex → Z.map (·.1) = S → VTs m as us [] → ∃ Z' br, Z'.map (·.1) = S' ∧ Good m0 m N Z' (ex ++ br) ∧ VTs m bs us br := by
  induction h with
  | nil => intro Z ex c G hm hv; exact ⟨Z, [], hm, by simpa using G, hv⟩
  | cons h k ih =>
    intro Z ex c G hm hv
    rename_i a b as bs
    have ha := hv.ntup
    obtain ⟨u, us, b1, b2, rfl, e, h1, h2⟩ := (VTs_cons ha).1 hv
    obtain ⟨rfl, rfl⟩ : b1 = [] ∧ b2 = [] := by simpa using e.symm
    obtain ⟨Z1, br1, hm1, G1, hv1⟩ := h.sound G hm h1
    obtain ⟨Z2, br2, hm2, G2, hv2⟩ := ih G1 hm1 h2
    exact ⟨Z2, br1 ++ br2, hm2, by simpa using G2, (VTs_cons (h.tup ha)).2 ⟨u, us, br1, br2, rfl, rfl, hv1, hv2⟩⟩
end

/-- What a result variable holds. -/
inductive ResV (P : Program) (st : St) : ResultVar → AV → Prop
  | tmp {t : Nat} {a : AV} (h : look st.T t = some a) : ResV P st (.tmp t) a
  | cell {t : Nat} {ty ty' : TypeId} {X i k p sz n : Nat} {l : List AV} {e a : AV} {ag : Bool} (h : look st.T t = some (.ptr X i k)) (hS : At st.S p (X, .row ty' sz l)) (hA : tAgg P ty = some ag) (hn : tSz P ty = some n) (hi : l[i]? = some e) (hp : partOf e.cells k n ag = some a) : ResV P st (.cell t ty) a
inductive ResVs (P : Program) (st : St) : List ResultVar → List AV → Prop
  | nil : ResVs P st [] []
  | cons {r : ResultVar} {rs : List ResultVar} {a : AV} {as : List AV} (h : ResV P st r a) (ht : ntup a = true) (k : ResVs P st rs as) : ResVs P st (r :: rs) (a :: as)
def packR : List AV → AV
  | [a] => a
  | l => .tup l
/-- The end of a function: what it returns, and what becomes of the objects. -/
def Ends (P : Program) (res : List ResultVar) (Sf : List Slot) (Q : AV → List Slot → Prop) (st : St) : Prop :=
  ∃ as bs S1 S', ResVs P st res as ∧ CVs st.S as bs S1 ∧ (S' ++ Sf).Sublist S1 ∧ Q (packR bs) S'
def retQ (P : Program) (res : List ResultVar) (Sf : List Slot) (Q : AV → List Slot → Prop) : Exit → St → Prop
  | .normal, st | .ret, st => Ends P res Sf Q st
  | _, _ => False
end
end Go.Proofs.Ytcfleoaldoebhaa

/-
  Steps over abstract states; a region, in its own order or in any order that its edges allow. No conditions.
-/
import Derived.Test.YtcfleoaldoebhaaAbs2
import Derived.OrdersIn
import Derived.RangeFuncRecord
import Derived.RangeFuncCalls
namespace Go.Proofs.Ytcfleoaldoebhaa
set_option linter.unusedVariables false
variable {ro : Option Nat}
open Go.RowKit

def setAll (S : List Slot) : List (Nat × Slot) → List Slot
  | [] => S
  | q :: r => setAll (S.set q.1 q.2) r
inductive Evs (T : List (Nat × AV)) : List (Operand × AV) → Prop
  | nil : Evs T []
  | cons {x : Operand} {v : AV} {r : List (Operand × AV)} (h : ev T x = some v) (k : Evs T r) : Evs T ((x, v) :: r)
inductive At : List Slot → Nat → Slot → Prop
  | here {e : Slot} {S : List Slot} : At (e :: S) 0 e
  | next {e e' : Slot} {S : List Slot} {p : Nat} (h : At S p e) : At (e' :: S) (p + 1) e
inductive Gets (S : List Slot) : List (Nat × Slot) → Prop
  | nil : Gets S []
  | cons {p : Nat} {e : Slot} {r : List (Nat × Slot)} (h : At S p e) (k : Gets S r) : Gets S ((p, e) :: r)
theorem At.get {S : List Slot} {p : Nat} {e : Slot} (h : At S p e) : S[p]? = some e := by
  induction h with
  | here => rfl
  | next _ ih => simpa using ih
theorem Evs.all {T : List (Nat × AV)} {xs : List (Operand × AV)} (h : Evs T xs) : ∀ q ∈ xs, ev T q.1 = some q.2 := by
  induction h with
  | nil => intro q hq; cases hq
  | cons h _ ih => intro q hq; rcases List.mem_cons.1 hq with rfl | hq; exact h; exact ih q hq
theorem Gets.all {S : List Slot} {xs : List (Nat × Slot)} (h : Gets S xs) : ∀ q ∈ xs, S[q.1]? = some q.2 := by
  induction h with
  | nil => intro q hq; cases hq
  | cons h _ ih => intro q hq; rcases List.mem_cons.1 hq with rfl | hq; exact h.get; exact ih q hq
def dstOk : Option Nat → Nat → Bool
  | none, _ => true
  | some d, n => Nat.blt d n
theorem dstOk_lt {o : Option Nat} {n : Nat} (h : dstOk o n = true) : ∀ d, o = some d → d < n := by
  rintro d rfl
  simpa [dstOk, Nat.blt_eq] using h

/-- What one operation does: the operands xs read as they say, the objects at the places rS are as they say; then the result is v, and the objects at the places wS are turned as they say. -/
def OpT (P : Program) (o : Oper) (xs : List (Operand × AV)) (rS : List (Nat × Slot)) (v : AV) (wS : List (Nat × Slot)) : Prop :=
  ∀ nt m0 T S a w, (∀ q ∈ xs, ev T q.1 = some q.2) → (∀ q ∈ rS, S[q.1]? = some q.2) → (∀ d, o.dst = some d → d < nt) → Rel nt m0 ⟨T, S⟩ a w →
    o.wp P a w (fun a' w' => Rel nt m0 ⟨putD T o.dst v, setAll S wS⟩ a' w') (fun _ _ _ => False)

theorem upon_ff {P : Program} {o : Oper} {a : Act} {K : Act → World → Prop} {Q : Exit → Act → World → Prop} {r : Result Next} (h : o.upon P a K (fun _ _ _ => False) r) : o.upon P a K Q r := by
  cases r with
  | ok n w' =>
    cases n <;> simp only [Oper.upon] at h ⊢ <;>
      first
        | exact h
        | exact Calls.mono h (fun e w'' he => by cases e <;> first | exact he | exact he.elim | exact (by obtain ⟨_, _, hh⟩ := he; exact hh.elim))
  | halt x w' => cases x <;> simp only [Oper.upon] at h
theorem wp_ff {P : Program} {o : Oper} {a : Act} {w : World} {K : Act → World → Prop} {Q : Exit → Act → World → Prop} (h : o.wp P a w K (fun _ _ _ => False)) : o.wp P a w K Q := upon_ff h

section
variable {P : Program} {nt : Nat} {m0 : Mem}
theorem Rel.congr {T T' : List (Nat × AV)} {S : List Slot} {a : Act} {w : World} (h : Rel nt m0 ⟨T, S⟩ a w) (hT : ∀ d v, look T' d = some v → look T d = some v) : Rel nt m0 ⟨T', S⟩ a w := by
  obtain ⟨m, N, Z, h1, h2, h3, h4, h5, h6⟩ := h
  exact ⟨m, N, Z, h1, h2, h3, h4, h5, fun d v hd => h6 d v (hT d v hd)⟩

/-- No fence at all; ro: the code runs in a round of the loop with that record. -/
def FW (ro : Option Nat) : Fence := { Fence.wide with round := ro }
theorem fw_room (ro : Option Nat) (n : Nat) : (FW ro).room n := fun _ h => by simp [FW, Fence.wide] at h
theorem calls_fw {ro : Option Nat} {n : Nat} {P : Program} {f : FuncId} {args : Array Value} {w : World} {R : Ending → World → Prop} (h : Calls P f args w R) : CallsIn (FW ro) n P f args w R := callsIn_wide (n := n).2 h
theorem calls_of_fw {ro : Option Nat} {n : Nat} {P : Program} {f : FuncId} {args : Array Value} {w : World} {R : Ending → World → Prop} (h : CallsIn (FW ro) n P f args w R) : Calls P f args w R := callsIn_wide (n := n).1 h
def AOps (ro : Option Nat) (P : Program) (nt : Nat) (ops : Array Oper) (Q : Exit → St → Prop) (rest : List Oper) (st : St) : Prop :=
  ∀ m0 a w, Rel nt m0 st a w → wpListIn (FW ro) 0 P ops (fun e a' w' => ∃ st', Rel nt m0 st' a' w' ∧ Q e st') rest a w
def AWP (ro : Option Nat) (P : Program) (nt : Nat) (c : Code) (Q : Exit → St → Prop) (st : St) : Prop :=
  ∀ m0 a w, Rel nt m0 st a w → c.wpIn (FW ro) 0 P (fun e a' w' => ∃ st', Rel nt m0 st' a' w' ∧ Q e st') a w
theorem rows_fw {ro : Option Nat} {n : Nat} {P : Program} {row : String} {args : Array Value} {w : World} {R : Value → World → Prop} (h : Rows P row args w R) : RowsIn (FW ro) n P row args w R :=
  fun c cs _ => let ⟨v, w', r, s⟩ := h c cs; ⟨v, w', r, stepsIn_wide.2 s⟩
theorem ofValue_target {P : Program} {f : Value} {args : Array Value} {w w' : World} {d : Deferred} (h : (Deferred.ofValue f args).run P w = .ok d w') : ∀ r, d.target ≠ .collected r := by
  intro r
  cases f <;> simp [Deferred.ofValue, Sem.run_pure, stuck] at h <;> (obtain ⟨rfl, _⟩ := h; simp)
theorem resolve_target {P : Program} {ρ : Operand → Value} {c : Call} {t : TypeId} {w w' : World} {d : Deferred} (h : (resolve ρ c t).run P w = .ok d w') : ∀ r, d.target ≠ .collected r := by
  intro r
  unfold resolve at h
  cases hc : c.callee with
  | builtin b => simp [hc, Sem.run_pure] at h; obtain ⟨rfl, _⟩ := h; simp
  | invoke x n => simp [hc, Sem.run_pure] at h; obtain ⟨rfl, _⟩ := h; simp
  | value f => simp only [hc] at h; exact ofValue_target h r
/-- An operation that keeps the activation's own marks is no defer statement. -/
theorem not_defer {o : Oper} {a : Act} {w : World} {st' : St} (h : o.wp P a w (fun a' w' => Rel nt m0 st' a' w') (fun _ _ _ => False)) : ∀ c, o.op ≠ .defer c := by
  intro c hc
  unfold Oper.wp at h
  have he : execOp a.eval o = (resolve a.eval c o.type >>= fun d => pure (.defer d)) := by unfold execOp; rw [hc]
  rw [he, Sem.run_bind] at h
  cases hr : (resolve a.eval c o.type).run P w with
  | ok d w' =>
    rw [hr] at h
    simp only [Result.andThen_ok, Sem.run_pure] at h
    rw [Oper.upon_defer] at h
    obtain ⟨m, N, Z, _, _, _, _, ⟨ds, h5, _⟩, _⟩ := h
    have h6 : (({ a with defers := d :: a.defers } : Act).put o.dst undef).defers = d :: a.defers := by cases o.dst <;> rfl
    rw [h6] at h5
    cases ds with
    | nil => cases h5
    | cons x ds =>
      injection h5 with h5
      exact resolve_target hr x (by rw [h5]; rfl)
  | halt x w' =>
    rw [hr] at h
    cases x <;> simp [Result.andThen, Oper.upon] at h
theorem wpIn_fw {o : Oper} {a : Act} {w : World} {st' : St} {K : Act → World → Prop} {Q : Exit → Act → World → Prop} (h : o.wp P a w (fun a' w' => Rel nt m0 st' a' w') (fun _ _ _ => False)) (hK : ∀ a' w', Rel nt m0 st' a' w' → K a' w') : o.wpIn (FW ro) 0 P a w K Q := by
  refine ⟨fun _ _ => trivial, ?_⟩
  rw [show o.semAt (FW ro).round a.eval = execOp a.eval o from Oper.semAt_eq _ _ _ (not_defer h)]
  unfold Oper.wp at h
  cases hr : (execOp a.eval o).run P w with
  | ok n w' =>
    rw [hr] at h
    cases n <;> simp only [Oper.upon, Oper.uponIn] at h ⊢ <;>
      first
        | exact hK _ _ h
        | exact ⟨fun h => (by simp [FW, Fence.wide] at h), CallsIn.mono (calls_fw h) (fun e w'' he => by cases e <;> first | exact hK _ _ he | exact he.elim | exact (by obtain ⟨_, _, hh⟩ := he; exact hh.elim))⟩
        | exact ⟨fun h => (by simp [FW, Fence.wide] at h), RowsIn.mono (rows_fw h) (fun _ _ he => hK _ _ he)⟩
  | halt x w' => rw [hr] at h; cases x <;> simp only [Oper.upon] at h
/-- The state st may be taken for one of those that K tells. -/
def St.To (nt : Nat) (st : St) (K : St → Prop) : Prop := ∀ m0 a w, Rel nt m0 st a w → ∃ st', Rel nt m0 st' a w ∧ K st'

variable {ops : Array Oper} {Q : Exit → St → Prop} {rest : List Oper} {st : St} {o : Oper}
theorem AOps.nil (h : Q .normal st) : AOps ro P nt ops Q [] st := fun m0 a w hr => ⟨st, hr, h⟩
theorem AOps.ghost {K : St → Prop} (h : St.To nt st K) (k : ∀ st', K st' → AOps ro P nt ops Q rest st') : AOps ro P nt ops Q rest st :=
  fun m0 a w hr => let ⟨st', h1, h2⟩ := h m0 a w hr; k st' h2 m0 a w h1
theorem AWP.ghost {c : Code} {K : St → Prop} (h : St.To nt st K) (k : ∀ st', K st' → AWP ro P nt c Q st') : AWP ro P nt c Q st :=
  fun m0 a w hr => let ⟨st', h1, h2⟩ := h m0 a w hr; k st' h2 m0 a w h1
theorem AOps.step {xs : List (Operand × AV)} {rS : List (Nat × Slot)} {v : AV} {wS : List (Nat × Slot)} (hg : o.guard = none) (h : OpT P o xs rS v wS) (hx : Evs st.T xs) (hS : Gets st.S rS) (hd : dstOk o.dst nt = true)
    (k : AOps ro P nt ops Q rest ⟨putD st.T o.dst v, setAll st.S wS⟩) : AOps ro P nt ops Q (o :: rest) st :=
  fun m0 a w hr => wpListIn_plain hg fun K hK => wpIn_fw (h nt m0 _ _ a w hx.all hS.all (dstOk_lt hd) hr) fun a w h => hK a w (k m0 a w h)
/-- An operation under a guard that is met. -/
theorem AOps.stepG {xs : List (Operand × AV)} {rS : List (Nat × Slot)} {v : AV} {wS : List (Nat × Slot)} {g : Nat} {b b' : Bool} {t : Nat} (hg : o.guard = some (g, b)) (ht : (ops[g]?).bind (·.dst) = some t) (hv : look st.T t = some (.prim (.bool b'))) (hb : b' = b)
    (h : OpT P o xs rS v wS) (hx : Evs st.T xs) (hS : Gets st.S rS) (hd : dstOk o.dst nt = true) (k : AOps ro P nt ops Q rest ⟨putD st.T o.dst v, setAll st.S wS⟩) : AOps ro P nt ops Q (o :: rest) st := by
  intro m0 a w hr
  refine wpListIn_step fun K hK => ?_
  have hy : yielded ops a.tmps g = some b := by
    obtain ⟨m, N, Z, h1, h2, h3, h4, h5, h6⟩ := hr
    obtain ⟨u, hu1, hu2⟩ := h6 t _ hv
    obtain ⟨⟨e, _⟩, _⟩ := hu2
    injection e with e
    subst e hb
    simp [yielded, ht, hu1]
  rw [if_pos (by simp [Region.wanted, hg, hy])]
  exact wpIn_fw (h nt m0 _ _ a w hx.all hS.all (dstOk_lt hd) hr) fun a w h => hK a w (k m0 a w h)
theorem put_dead {T : List (Nat × AV)} {S : List Slot} {a : Act} {w : World} {dst : Option Nat} (hd : ∀ d, dst = some d → d < nt) (h : Rel nt m0 ⟨T, S⟩ a w) : Rel nt m0 ⟨putD T dst .dead, S⟩ (a.put dst undef) w := by
  obtain ⟨m, N, Z, h1, h2, h3, h4⟩ := h
  exact ⟨m, N, Z, h1, h2, h3, h4.put hd rfl⟩
/-- An operation under a guard that is not met. -/
theorem AOps.skipG {g : Nat} {b b' : Bool} {t : Nat} (hg : o.guard = some (g, b)) (ht : (ops[g]?).bind (·.dst) = some t) (hv : look st.T t = some (.prim (.bool b'))) (hb : b' = !b) (hd : dstOk o.dst nt = true)
    (k : AOps ro P nt ops Q rest ⟨putD st.T o.dst .dead, st.S⟩) : AOps ro P nt ops Q (o :: rest) st := by
  intro m0 a w hr
  refine wpListIn_step fun K hK => ?_
  have hy : yielded ops a.tmps g = some !b := by
    obtain ⟨m, N, Z, h1, h2, h3, h4, h5, h6⟩ := hr
    obtain ⟨u, hu1, hu2⟩ := h6 t _ hv
    obtain ⟨⟨e, _⟩, _⟩ := hu2
    injection e with e
    subst e hb
    simp [yielded, ht, hu1]
  rw [if_neg (by simp [Region.wanted, hg, hy])]
  exact ⟨fun _ _ => trivial, hK _ _ (k m0 _ w (put_dead (dstOk_lt hd) hr))⟩

/-! ### operations under a guard that is open -/
/-- v only if all of cs. -/
def mkOpt : List Bool → AV → AV
  | [], v => v
  | c :: cs, v => .opt c (mkOpt cs v)
/-- If all of cs, then w is v. -/
inductive Strips (cs : List Bool) : AV → AV → Prop
  | refl {v : AV} : Strips cs v v
  | step {c : Bool} {w v : AV} (hc : c ∈ cs) (h : Strips cs w v) : Strips cs (.opt c w) v
/-- A bool under conditions: its conditions, and the bool. -/
def condOf : AV → Option (List Bool × Bool)
  | .prim (.bool b) => some ([], b)
  | .opt c a => match condOf a with
    | some (cs, b) => some (c :: cs, b)
    | none => none
  | _ => none
theorem Strips.vv {m : Mem} {cs : List Bool} {w v : AV} (h : Strips cs w v) (hall : ∀ c ∈ cs, c = true) {u : Value} (k : VV m w u []) : VV m v u [] := by
  induction h with
  | refl => exact k
  | step hc h ih => exact ih (k.2.1 (hall _ hc))
theorem mkOpt_vv {m : Mem} {cs : List Bool} {v : AV} (hall : ∀ c ∈ cs, c = true) {u : Value} (k : VV m v u []) : VV m (mkOpt cs v) u [] := by
  induction cs with
  | nil => exact k
  | cons c cs ih => exact ⟨rfl, fun _ => ih fun c hc => hall c (by simp [hc]), fun hc => by rw [hall c (by simp)] at hc; cases hc⟩
theorem mkOpt_undef {m : Mem} {cs : List Bool} {v : AV} (h : ∃ c ∈ cs, c = false) : VV m (mkOpt cs v) undef [] := by
  induction cs with
  | nil => obtain ⟨c, hc, _⟩ := h; cases hc
  | cons c cs ih =>
    refine ⟨rfl, fun hc => ih ?_, fun _ => rfl⟩
    obtain ⟨d, hd, h⟩ := h
    rcases List.mem_cons.1 hd with rfl | hd
    · rw [hc] at h; cases h
    · exact ⟨d, hd, h⟩
theorem condOf_vv {m : Mem} : ∀ {w : AV} {cs : List Bool} {b : Bool}, condOf w = some (cs, b) → ∀ {u : Value}, VV m w u [] → ((∀ c ∈ cs, c = true) → u = .bool b) ∧ ((∃ c ∈ cs, c = false) → u = undef)
  | .opt c a, cs, b, h, u, k => by
    simp only [condOf] at h
    cases ha : condOf a with
    | none => rw [ha] at h; cases h
    | some q =>
      obtain ⟨cs', b'⟩ := q
      rw [ha] at h
      simp only [Option.some.injEq, Prod.mk.injEq] at h
      obtain ⟨rfl, rfl⟩ := h
      refine ⟨fun hall => (condOf_vv ha (k.2.1 (hall c (by simp)))).1 fun d hd => hall d (by simp [hd]), ?_⟩
      rintro ⟨d, hd, rfl⟩
      cases c with
      | false => exact k.2.2 rfl
      | true =>
        refine (condOf_vv ha (k.2.1 rfl)).2 ?_
        rcases List.mem_cons.1 hd with h | h
        · cases h
        · exact ⟨false, h, rfl⟩
  | .prim v, cs, b, h, u, k => by
    cases v <;> simp only [condOf] at h <;> cases h
    obtain ⟨⟨e, _⟩, _⟩ := k
    injection e with e
    exact ⟨fun _ => e, fun ⟨c, hc, _⟩ => by cases hc⟩
  | .dead, _, _, h, _, _ | .agg _, _, _, h, _, _ | .tup _, _, _, h, _, _ | .lst .., _, _, h, _, _ | .bx .., _, _, h, _, _ | .sl .., _, _, h, _, _ | .ptr .., _, _, h, _, _ | .fp _, _, _, h, _, _ | .fn .., _, _, h, _, _ | .mp _, _, _, h, _, _ => by cases h
inductive EvCs (cs : List Bool) (T : List (Nat × AV)) : List (Operand × AV) → Prop
  | nil : EvCs cs T []
  | cons {x : Operand} {w v : AV} {r : List (Operand × AV)} (h : ev T x = some w) (hs : Strips cs w v) (k : EvCs cs T r) : EvCs cs T ((x, v) :: r)
theorem EvCs.all {cs : List Bool} {T : List (Nat × AV)} {xs : List (Operand × AV)} (h : EvCs cs T xs) : ∀ q ∈ xs, ∃ w, ev T q.1 = some w ∧ Strips cs w q.2 := by
  induction h with
  | nil => intro q hq; cases hq
  | cons h hs _ ih => intro q hq; rcases List.mem_cons.1 hq with rfl | hq; exact ⟨_, h, hs⟩; exact ih q hq
def tmpT : List (Operand × AV) → List (Nat × AV)
  | [] => []
  | (.tmp t, v) :: r => (t, v) :: tmpT r
  | _ :: r => tmpT r
def hasT (t : Nat) : List (Operand × AV) → Bool
  | [] => false
  | (.tmp d, _) :: r => Nat.beq t d || hasT t r
  | _ :: r => hasT t r
/-- No temporary occurs twice. -/
def onceT : List (Operand × AV) → Bool
  | [] => true
  | (.tmp t, _) :: r => !hasT t r && onceT r
  | _ :: r => onceT r
theorem look_app (A B : List (Nat × AV)) (d : Nat) : look (A ++ B) d = (look A d).or (look B d) := by
  induction A with
  | nil => rfl
  | cons a A ih =>
    obtain ⟨e, v⟩ := a
    rw [List.cons_append, look_cons, look_cons]
    split
    · rfl
    · exact ih
theorem tmpT_look {xs : List (Operand × AV)} {d : Nat} {v : AV} (h : look (tmpT xs) d = some v) : (Operand.tmp d, v) ∈ xs := by
  induction xs with
  | nil => cases h
  | cons q xs ih =>
    obtain ⟨x, v'⟩ := q
    cases x with
    | tmp t =>
      rw [tmpT, look_cons] at h
      split at h
      · rename_i e; subst e; injection h with h; subst h; simp
      · simp [ih h]
    | _ => simp [ih h]
theorem hasT_mem {xs : List (Operand × AV)} {d : Nat} {v : AV} (h : (Operand.tmp d, v) ∈ xs) : hasT d xs = true := by
  induction xs with
  | nil => cases h
  | cons q xs ih =>
    obtain ⟨x, v'⟩ := q
    rcases List.mem_cons.1 h with h' | h'
    · injection h' with h1 h2; subst h1; simp [hasT]
    · cases x <;> simp [hasT, ih h']
theorem tmpT_once {xs : List (Operand × AV)} (ho : onceT xs = true) {d : Nat} {v : AV} (h : (Operand.tmp d, v) ∈ xs) : look (tmpT xs) d = some v := by
  induction xs with
  | nil => cases h
  | cons q xs ih =>
    obtain ⟨x, v'⟩ := q
    cases x with
    | tmp t =>
      simp only [onceT, Bool.and_eq_true, Bool.not_eq_true'] at ho
      rw [tmpT, look_cons]
      rcases List.mem_cons.1 h with h' | h'
      · injection h' with h1 h2; injection h1 with h1; subst h1 h2; rw [if_pos rfl]
      · split
        · rename_i e; subst e
          rw [hasT_mem h'] at ho
          cases ho.1
        · exact ih ho.2 h'
    | _ =>
      rcases List.mem_cons.1 h with h | h
      · injection h with h1 h2; cases h1
      · exact ih ho h
theorem ev_noopt {T : List (Nat × AV)} {x : Operand} {w : AV} (h : ev T x = some w) (hx : ∀ t, x ≠ .tmp t) : ∀ c a, w ≠ .opt c a := by
  rintro c a rfl
  cases x with
  | tmp t => exact hx t rfl
  | const cv => cases cv <;> simp only [ev] at h <;> first | (injection h with h; cases h) | (cases h) | (split at h <;> first | (injection h with h; cases h) | cases h)
  | func f => injection h with h; cases h
  | global g => cases h
theorem opt_step {o : Oper} {cs : List Bool} {xs : List (Operand × AV)} {rS : List (Nat × Slot)} {v : AV} (h : OpT P o xs rS v []) (hon : onceT xs = true) {T : List (Nat × AV)} {S : List Slot} {a : Act} {w : World} (hx : ∀ q ∈ xs, ∃ w, ev T q.1 = some w ∧ Strips cs w q.2) (hS : ∀ q ∈ rS, S[q.1]? = some q.2) (hd : ∀ d, o.dst = some d → d < nt) (hr : Rel nt m0 ⟨T, S⟩ a w) (hall : ∀ c ∈ cs, c = true) :
    o.wp P a w (fun a' w' => Rel nt m0 ⟨putD T o.dst (mkOpt cs v), S⟩ a' w') (fun _ _ _ => False) := by
  have hfirst : ∀ d v', look (tmpT xs) d = some v' → ∃ w, look T d = some w ∧ Strips cs w v' := fun d v' hd => hx _ (tmpT_look hd)
  have hr1 : Rel nt m0 ⟨tmpT xs ++ T, S⟩ a w := by
    obtain ⟨m, N, Z, h1, h2, h3, h4, h5, h6⟩ := hr
    refine ⟨m, N, Z, h1, h2, h3, h4, h5, fun d v' hd' => ?_⟩
    rw [look_app] at hd'
    cases hl : look (tmpT xs) d with
    | none => rw [hl] at hd'; exact h6 d v' hd'
    | some v1 =>
      rw [hl] at hd'
      simp only [Option.some_or, Option.some.injEq] at hd'
      subst hd'
      obtain ⟨w1, h7, hs⟩ := hfirst d v1 hl
      obtain ⟨u, h8, h9⟩ := h6 d _ h7
      exact ⟨u, h8, hs.vv hall h9⟩
  have hx2 : ∀ q ∈ xs, ev (tmpT xs ++ T) q.1 = some q.2 := by
    intro q hq
    obtain ⟨x, v'⟩ := q
    obtain ⟨w1, h1, hs⟩ := hx _ hq
    by_cases hxt : ∃ t, x = .tmp t
    · obtain ⟨t, rfl⟩ := hxt
      show look (tmpT xs ++ T) t = some v'
      rw [look_app, tmpT_once hon hq]
      rfl
    · have hne : ∀ t, x ≠ .tmp t := fun t e => hxt ⟨t, e⟩
      have hw : w1 = v' := by
        cases hs with
        | refl => rfl
        | step hc hs => exact absurd rfl (ev_noopt h1 hne _ _)
      subst hw
      cases x with
      | tmp t => exact absurd rfl (hne t)
      | _ => exact h1
  refine Oper.wp_mono ?_ (h nt m0 (tmpT xs ++ T) S a w hx2 hS hd hr1)
  rintro a' w' ⟨m, N, Z, h1, h2, h3, h4, h5, h6⟩
  refine ⟨m, N, Z, h1, h2, h3, h4, h5, fun d v' hd' => ?_⟩
  have key : ∀ d v', look T d = some v' → (∀ d', o.dst = some d' → d ≠ d') → ∃ u, a'.tmps[d]? = some u ∧ VV m v' u [] := by
    intro d v' hd' hne
    have hl : look (putD (tmpT xs ++ T) o.dst v) d = look (tmpT xs ++ T) d := by
      cases hdd : o.dst with
      | none => rfl
      | some d0 => rw [putD, look_cons, if_neg (hne d0 hdd)]
    cases hl1 : look (tmpT xs) d with
    | none => exact h6 d v' (by rw [hl, look_app, hl1]; exact hd')
    | some v1 =>
      obtain ⟨u, h8, h9⟩ := h6 d v1 (by rw [hl, look_app, hl1]; rfl)
      obtain ⟨w1, h7, hs⟩ := hfirst d v1 hl1
      rw [h7] at hd'; injection hd' with hd'; subst hd'
      refine ⟨u, h8, ?_⟩
      clear h7 hl1 h8
      induction hs with
      | refl => exact h9
      | step hc hs ih => exact ⟨rfl, fun _ => ih h9, fun h => by rw [hall _ hc] at h; cases h⟩
  cases hdd : o.dst with
  | none =>
    rw [hdd] at hd'
    exact key d v' hd' (by simp [hdd])
  | some d0 =>
    rw [hdd, putD, look_cons] at hd'
    split at hd'
    · rename_i e; subst e
      injection hd' with hd'; subst hd'
      obtain ⟨u, h8, h9⟩ := h6 d v (by rw [hdd, putD, look_cons, if_pos rfl])
      exact ⟨u, h8, mkOpt_vv hall h9⟩
    · rename_i hne
      refine key d v' hd' fun d' hd'' => ?_
      rw [hdd] at hd''; injection hd'' with hd''; subst hd''; exact hne
theorem put_opt {T : List (Nat × AV)} {S : List Slot} {a : Act} {w : World} {dst : Option Nat} {v : AV} {cs : List Bool} (hc : ∃ c ∈ cs, c = false) (hd : ∀ d, dst = some d → d < nt) (h : Rel nt m0 ⟨T, S⟩ a w) : Rel nt m0 ⟨putD T dst (mkOpt cs v), S⟩ (a.put dst undef) w := by
  obtain ⟨m, N, Z, h1, h2, h3, h4⟩ := h
  exact ⟨m, N, Z, h1, h2, h3, h4.put hd (mkOpt_undef hc)⟩
theorem all_or (cs : List Bool) : (∀ c ∈ cs, c = true) ∨ ∃ c ∈ cs, c = false := by
  induction cs with
  | nil => exact .inl (by simp)
  | cons c cs ih =>
    cases c
    · exact .inr ⟨false, by simp, rfl⟩
    · rcases ih with h | ⟨d, hd, h⟩
      · exact .inl fun d hd => by rcases List.mem_cons.1 hd with rfl | hd; rfl; exact h d hd
      · exact .inr ⟨d, by simp [hd], h⟩
/-- Is a guarded operation carried out? -/
theorem guard_open {T : List (Nat × AV)} {S : List Slot} {a : Act} {w : World} (hr : Rel nt m0 ⟨T, S⟩ a w) {g t : Nat} {b b' : Bool} {wg : AV} {cs : List Bool} (hg : o.guard = some (g, b)) (ht : (ops[g]?).bind (·.dst) = some t) (hv : look T t = some wg) (hc : condOf wg = some (cs, b')) :
    (Region.wanted o (yielded ops a.tmps) = true ∧ ∀ c ∈ cs ++ [b' == b], c = true) ∨ (Region.wanted o (yielded ops a.tmps) = false ∧ ∃ c ∈ cs ++ [b' == b], c = false) := by
  obtain ⟨m, N, Z, h1, h2, h3, h4, h5, h6⟩ := hr
  obtain ⟨u, hu1, hu2⟩ := h6 t _ hv
  obtain ⟨k1, k2⟩ := condOf_vv hc hu2
  have hy : yielded ops a.tmps g = (fun u : Value => match u with | .bool b => some b | _ => none) u := by unfold yielded; rw [ht]; simp only [Option.bind_some]; rw [hu1]; clear hu2 k1 k2 hu1; cases u <;> rfl
  rcases all_or cs with hall | hno
  · have := k1 hall
    subst this
    cases hb : b' == b
    · refine .inr ⟨?_, false, by simp, rfl⟩
      have : b' ≠ b := by simpa using hb
      simp [Region.wanted, hg, hy, this]
    · refine .inl ⟨?_, fun c hc => ?_⟩
      · have : b' = b := by simpa using hb
        simp [Region.wanted, hg, hy, this]
      · rcases List.mem_append.1 hc with h | h
        · exact hall c h
        · simp only [List.mem_singleton] at h; exact h
  · have := k2 hno
    subst this
    obtain ⟨c, hc, hcf⟩ := hno
    exact .inr ⟨by simp [Region.wanted, hg, hy, undef], c, by simp [hc], hcf⟩
/-- An operation under a guard of which it is not known whether it is met. -/
theorem AOps.stepQ {xs : List (Operand × AV)} {rS : List (Nat × Slot)} {v : AV} {g : Nat} {b b' : Bool} {t : Nat} {wg : AV} {cs : List Bool} (hg : o.guard = some (g, b)) (ht : (ops[g]?).bind (·.dst) = some t) (hv : look st.T t = some wg) (hc : condOf wg = some (cs, b'))
    (h : (∀ c ∈ cs ++ [b' == b], c = true) → OpT P o xs rS v []) (hx : EvCs (cs ++ [b' == b]) st.T xs) (hS : Gets st.S rS) (hd : dstOk o.dst nt = true) (hos : onceT xs = true) (k : AOps ro P nt ops Q rest ⟨putD st.T o.dst (mkOpt (cs ++ [b' == b]) v), st.S⟩) : AOps ro P nt ops Q (o :: rest) st := by
  intro m0 a w hr
  refine wpListIn_step fun K hK => ?_
  rcases guard_open hr hg ht hv hc with ⟨hw, hall⟩ | ⟨hw, hno⟩
  · rw [if_pos hw]
    exact wpIn_fw (opt_step (h hall) hos hx.all hS.all (dstOk_lt hd) hr hall) fun a w h => hK a w (k m0 a w h)
  · rw [if_neg (by simp [hw])]
    exact ⟨fun _ _ => trivial, hK _ _ (k m0 _ w (put_opt hno (dstOk_lt hd) hr))⟩

/-! ### a region in any order -/
structure Eff where
  o : Oper
  rT : List Nat
  rS : List Nat
  v : AV
  wS : List (Nat × Slot)
def Eff.app (st : St) (e : Eff) : St := ⟨putD st.T e.o.dst e.v, setAll st.S e.wS⟩
def stX : List Eff → Nat → (Nat → Bool) → St → St
  | [], _, _, st => st
  | e :: r, k, X, st => stX r (k + 1) X (match X k with | true => e.app st | false => st)
theorem set_get_ne {S : List Slot} {p q : Nat} {e : Slot} (h : p ≠ q) : (S.set p e)[q]? = S[q]? := List.getElem?_set_ne h
theorem setAll_len (S : List Slot) (wS : List (Nat × Slot)) : (setAll S wS).length = S.length := by
  induction wS generalizing S with
  | nil => rfl
  | cons q r ih => simp [setAll, ih]
theorem setAll_ne {wS : List (Nat × Slot)} {p : Nat} (h : ∀ q ∈ wS, q.1 ≠ p) (S : List Slot) : (setAll S wS)[p]? = S[p]? := by
  induction wS generalizing S with
  | nil => rfl
  | cons q r ih => simp only [setAll]; rw [ih (fun x hx => h x (by simp [hx])), set_get_ne (h q (by simp))]
theorem setAll_at {wS : List (Nat × Slot)} {p : Nat} (h : ∃ q ∈ wS, q.1 = p) {S S' : List Slot} (hl : S.length = S'.length) : (setAll S wS)[p]? = (setAll S' wS)[p]? := by
  induction wS generalizing S S' with
  | nil => obtain ⟨q, hq, _⟩ := h; cases hq
  | cons q r ih =>
    simp only [setAll]
    by_cases hr : ∃ x ∈ r, x.1 = p
    · exact ih hr (by simp [hl])
    · have hne : ∀ x ∈ r, x.1 ≠ p := fun x hx e => hr ⟨x, hx, e⟩
      rw [setAll_ne hne, setAll_ne hne]
      obtain ⟨x, hx, e⟩ := h
      rcases List.mem_cons.1 hx with rfl | hx
      · subst e
        simp [List.getElem?_set, hl]
      · exact absurd e (hne x hx)
theorem stX_look {effs : List Eff} {k : Nat} {X Y : Nat → Bool} {t : Nat} {s s' : St} (h : ∀ j e, effs[j]? = some e → e.o.dst = some t → X (k + j) = Y (k + j)) (hs : look s.T t = look s'.T t) : look (stX effs k X s).T t = look (stX effs k Y s').T t := by
  induction effs generalizing k s s' with
  | nil => exact hs
  | cons e r ih =>
    refine ih (fun j e' he hd => ?_) ?_
    · have := h (j + 1) e' (by simpa using he) hd
      rwa [show k + 1 + j = k + (j + 1) from by omega]
    · by_cases hd : e.o.dst = some t
      · have hXY := h 0 e rfl hd
        rw [Nat.add_zero] at hXY
        rw [← hXY]
        cases X k
        · exact hs
        · simp [Eff.app, hd, putD, look_cons]
      · have ap : ∀ s : St, look (e.app s).T t = look s.T t := fun s => by
          simp only [Eff.app]
          cases hdd : e.o.dst with
          | none => rfl
          | some d => rw [putD, look_cons, if_neg]; exact fun h => hd (by rw [hdd, h])
        cases X k <;> cases Y k <;> simp [ap, hs]
theorem stX_get {effs : List Eff} {k : Nat} {X Y : Nat → Bool} {p : Nat} {s s' : St} (h : ∀ j e, effs[j]? = some e → (∃ q ∈ e.wS, q.1 = p) → X (k + j) = Y (k + j)) (hl : s.S.length = s'.S.length) (hs : s.S[p]? = s'.S[p]?) : (stX effs k X s).S[p]? = (stX effs k Y s').S[p]? := by
  induction effs generalizing k s s' with
  | nil => exact hs
  | cons e r ih =>
    refine ih (fun j e' he hd => ?_) ?_ ?_
    · have := h (j + 1) e' (by simpa using he) hd
      rwa [show k + 1 + j = k + (j + 1) from by omega]
    · cases X k <;> cases Y k <;> simp [Eff.app, setAll_len, hl]
    · by_cases hd : ∃ q ∈ e.wS, q.1 = p
      · have hXY := h 0 e rfl hd
        rw [Nat.add_zero] at hXY
        rw [← hXY]
        cases X k
        · exact hs
        · exact setAll_at hd hl
      · have ap : ∀ s : St, (e.app s).S[p]? = s.S[p]? := fun s => setAll_ne (fun q hq e => hd ⟨q, hq, e⟩) _
        cases X k <;> cases Y k <;> simp [ap, hs]
theorem stX_len (effs : List Eff) (k : Nat) (X : Nat → Bool) (s : St) : (stX effs k X s).S.length = s.S.length := by
  induction effs generalizing k s with
  | nil => rfl
  | cons e r ih => simp only [stX]; rw [ih]; cases X k <;> simp [Eff.app, setAll_len]
theorem stX_last {effs : List Eff} {k i : Nat} {X : Nat → Bool} {t : Nat} {e : Eff} {s : St} (hi : effs[i]? = some e) (hX : X (k + i) = true) (hd : e.o.dst = some t) (hn : ∀ j e', i < j → effs[j]? = some e' → X (k + j) = true → e'.o.dst ≠ some t) : look (stX effs k X s).T t = some e.v := by
  induction effs generalizing k i s with
  | nil => simp at hi
  | cons e0 r ih =>
    cases i with
    | zero =>
      simp at hi hX
      subst hi
      simp only [stX, hX]
      have := stX_look (effs := r) (k := k + 1) (X := X) (Y := fun _ => false) (t := t) (s := e0.app s) (s' := e0.app s) (fun j e' he hd' => by
        have := hn (j + 1) e' (by omega) (by simpa using he)
        rw [show k + (j + 1) = k + 1 + j from by omega] at this
        cases hx : X (k + 1 + j)
        · rfl
        · exact absurd hd' (this hx)) rfl
      rw [this]
      have none : ∀ (r : List Eff) k s, stX r k (fun _ => false) s = s := by
        intro r
        induction r with
        | nil => intros; rfl
        | cons e r ih => intro k s; exact ih _ _
      rw [none]
      simp [Eff.app, hd, putD, look_cons]
    | succ i =>
      refine ih (k := k + 1) (i := i) (by simpa using hi) (by rwa [show k + 1 + i = k + (i + 1) from by omega]) fun j e' hj he hx => ?_
      exact hn (j + 1) e' (by omega) (by simpa using he) (by rwa [show k + (j + 1) = k + 1 + j from by omega])
theorem stX_lastS {effs : List Eff} {k i : Nat} {X : Nat → Bool} {p : Nat} {e : Eff} {s : St} (hi : effs[i]? = some e) (hX : X (k + i) = true) (hd : ∃ q ∈ e.wS, q.1 = p) (hn : ∀ j e', i < j → effs[j]? = some e' → X (k + j) = true → ¬ ∃ q ∈ e'.wS, q.1 = p) (S' : List Slot) (hl : S'.length = s.S.length) : (stX effs k X s).S[p]? = (setAll S' e.wS)[p]? := by
  induction effs generalizing k i s with
  | nil => simp at hi
  | cons e0 r ih =>
    cases i with
    | zero =>
      simp at hi hX
      subst hi
      simp only [stX, hX]
      have := stX_get (effs := r) (k := k + 1) (X := X) (Y := fun _ => false) (p := p) (s := e0.app s) (s' := e0.app s) (fun j e' he hd' => by
        have := hn (j + 1) e' (by omega) (by simpa using he)
        rw [show k + (j + 1) = k + 1 + j from by omega] at this
        cases hx : X (k + 1 + j)
        · rfl
        · exact absurd hd' (this hx)) rfl rfl
      rw [this]
      have none : ∀ (r : List Eff) k s, stX r k (fun _ => false) s = s := by
        intro r
        induction r with
        | nil => intros; rfl
        | cons e r ih => intro k s; exact ih _ _
      rw [none]
      exact setAll_at hd hl.symm
    | succ i =>
      refine ih (k := k + 1) (i := i) (by simpa using hi) (by rwa [show k + 1 + i = k + (i + 1) from by omega]) (fun j e' hj he hx => ?_) ?_
      · exact hn (j + 1) e' (by omega) (by simpa using he) (by rwa [show k + (j + 1) = k + 1 + j from by omega])
      · cases X k <;> simp [Eff.app, setAll_len, hl]
end
end Go.Proofs.Ytcfleoaldoebhaa

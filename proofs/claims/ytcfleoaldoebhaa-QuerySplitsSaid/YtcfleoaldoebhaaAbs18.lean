/-
  Variables that are never written again; closures and their calls; ranges over functions. No conditions.
-/
import Derived.Test.YtcfleoaldoebhaaAbs17
import Derived.RangeFuncRecord
namespace Go.Proofs.Ytcfleoaldoebhaa
set_option linter.unusedVariables false
set_option linter.unusedSimpArgs false
variable {ro : Option Nat}
open Go.RowKit

section
variable {P : Program} {nt : Nat} {m0 m : Mem} {X p : Nat} {t : TypeId} {sz : Nat} {e : AV}
/-- A variable is frozen: the pointers to it that the temporaries d hold read into frozen memory. -/
theorem St.iceP {st : St} (ds : List Nat) (hd : ∀ d ∈ ds, look st.T d = some (.ptr X 0 0)) (hS : At st.S p (X, .row t sz [e])) : St.To nt st fun st' => st' = ⟨ds.map (fun d => (d, .fp e.frz.cells)) ++ st.T, st.S.set p (X, .used)⟩ := by
  rintro m0 a w ⟨m, N, Z, rfl, h2, h3, h4⟩
  obtain ⟨bs, hz⟩ := hS.z h2
  obtain ⟨R, hp1, hp2⟩ := perm_get hz
  obtain ⟨m', hw, G', hle, _, hv⟩ := (h3.perm hp1).iced
  refine ⟨_, ⟨m', N, Z.set p ((X, .used), []), hw, by rw [List.map_set, h2], G'.perm (hp2 _).symm, h4.1, h4.2.1.mono hle, ?_⟩, rfl⟩
  have hT : ∀ d v, look st.T d = some v → ∃ u, a.tmps[d]? = some u ∧ VV m v u [] := h4.2.2
  clear h4
  induction ds with
  | nil => exact fun d v h => let ⟨u, h5, h6⟩ := hT d v h; ⟨u, h5, h6.mono hle (by simp)⟩
  | cons d ds ih =>
    intro d' v h
    simp only [List.map_cons, List.cons_append] at h
    rw [look_cons] at h
    split at h
    · rename_i e'; subst e'
      injection h with h; subst h
      obtain ⟨u, h5, h6⟩ := hT _ _ (hd d' (by simp))
      exact ⟨u, h5, hv e [u] rfl h6⟩
    · exact ih (fun d hd' => hd d (by simp [hd'])) d' v h
theorem AWP.iceP {c : Code} {Q : Exit → St → Prop} {T : List (Nat × AV)} {S : List Slot} (ds : List Nat) (hS : At S p (X, .row t sz [e])) {b : AV} [hf : Frz e b] (k : AWP ro P nt c Q ⟨ds.map (fun d => (d, .fp b.cells)) ++ T, S.set p (X, .used)⟩) (hd : ∀ d ∈ ds, look T d = some (.ptr X 0 0)) : AWP ro P nt c Q ⟨T, S⟩ :=
  .ghost (St.iceP (st := ⟨T, S⟩) ds hd hS) fun st' e => by subst e; rw [hf.h]; exact k
theorem AOps.iceP {ops : Array Oper} {rest : List Oper} {Q : Exit → St → Prop} {T : List (Nat × AV)} {S : List Slot} (ds : List Nat) (hS : At S p (X, .row t sz [e])) {b : AV} [hf : Frz e b] (k : AOps ro P nt ops Q rest ⟨ds.map (fun d => (d, .fp b.cells)) ++ T, S.set p (X, .used)⟩) (hd : ∀ d ∈ ds, look T d = some (.ptr X 0 0)) : AOps ro P nt ops Q rest ⟨T, S⟩ :=
  .ghost (St.iceP (st := ⟨T, S⟩) ds hd hS) fun st' e => by subst e; rw [hf.h]; exact k
end
section
variable {P : Program} {dst : Option Tmp} {ty t : TypeId} {pos : String} {after : Array Edge} {g : Option (Nat × Bool)} {x : Operand} {v : AV}
/-- A variable that is never written again. -/
theorem OpT.boxF (hs : v.stor = true) : OpT P ⟨dst, .box t x, ty, pos, after, g⟩ [(x, v)] [] (.fp v.frz.cells) [] := by
  intro nt m0 T S a w hx hS hd hr
  obtain ⟨_, hr', X, rfl⟩ := St.reserve (nt := nt) ⟨T, S⟩ m0 a w hr
  refine Oper.wp_mono (fun a' w' h => ?_) (OpT.box (dst := dst) (ty := ty) (t := t) (pos := pos) (after := after) (g := g) (X := X) (p := 0) hs nt m0 T ((X, .gone) :: S) a w hx (by simp) hd hr')
  cases dst with
  | none => exact Rel.sub h (.cons _ (.refl _))
  | some d =>
    obtain ⟨_, h2, rfl⟩ := St.iceP (nt := nt) (st := ⟨putD T (some d) (.ptr X 0 0), setAll ((X, .gone) :: S) [(0, (X, .row t v.width [v]))]⟩) (p := 0) (X := X) (t := t) (sz := v.width) (e := v) [d] (by simp [putD, look_cons]) .here m0 a' w' h
    refine Rel.sub (Rel.congr h2 fun e v he => ?_) (.cons _ (.refl _))
    simp only [putD, look_cons, List.map_cons, List.map_nil, List.cons_append, List.nil_append] at he ⊢
    by_cases e' : e = d
    · simpa [e'] using he
    · simpa [e'] using he
/-! ### calls of closures -/
theorem wp_callV {a : Act} {w : World} {args : Array Operand} {ats : Array TypeId} {f : FuncId} {vs : Array Value} {K : Act → World → Prop} (ha : a.eval x = .func (.func f) #[] vs) (hf : isFn P f = true)
    (h : Calls P f (args.map a.eval ++ vs) w fun e w' => ∃ v, e = .returned v ∧ K (a.put dst v) w') : Oper.wp P ⟨dst, .call ⟨.value x, args, ats⟩, ty, pos, after, g⟩ a w K (fun _ _ _ => False) := by
  unfold isFn at hf
  have hrun : (execOp a.eval ⟨dst, .call ⟨.value x, args, ats⟩, ty, pos, after, g⟩).run P w = .ok (.enter f (args.map a.eval ++ vs)) w := by
    split at hf
    · rename_i fn hfn
      simp only [Bool.and_eq_true, Bool.not_eq_true'] at hf
      have hb : fn.body.isNone = false := by
        cases hfb : fn.body with
        | none => rw [hfb] at hf; simp at hf
        | some c => rfl
      have h1 : ¬ fn.name = "runtime.NumGoroutine" := by simpa using hf.1
      have h2 : ¬ fn.body = none := by intro h; rw [h] at hb; cases hb
      simp [execOp, resolve, ha, Deferred.ofValue, invoke, callFunc, program, Sem.run_bind, Sem.run, Result.andThen_ok, hfn, h1, h2]
    · cases hf
  unfold Oper.wp
  rw [hrun]
  simp only [Oper.upon]
  refine h.mono fun e w' ⟨v, he, hk⟩ => ?_
  subst he
  exact hk
theorem vts_cap {m : Mem} : ∀ {cap : List AV} {us : List Value}, st1s cap = true → VCs m cap us [] → VTs m cap us []
  | [], us, _, h => ⟨h.1, rfl⟩
  | c :: cap, us, hs, h => by
    simp only [st1s, Bool.and_eq_true] at hs
    obtain ⟨c1, c2, b1, b2, rfl, e, h1, h2⟩ := h
    obtain ⟨rfl, rfl⟩ : b1 = [] ∧ b2 = [] := by simpa using e.symm
    have hl := VC.len _ h1
    have hw : c.width = 1 := by cases c <;> first | rfl | (simp [AV.st1] at hs)
    rw [hw] at hl
    obtain ⟨u, rfl⟩ := List.length_eq_one_iff.1 hl
    have hn : ntup c = true := by cases c <;> first | rfl | (simp [AV.st1] at hs)
    have hv : VV m c u [] := by cases c <;> first | exact h1 | (simp [AV.st1] at hs)
    exact (VTs_cons hn).2 ⟨u, c2, [], [], rfl, rfl, hv, vts_cap hs.2 h2⟩
theorem vts_app {m : Mem} : ∀ {l k : List AV} {us vs : List Value}, VTs m l us [] → VTs m k vs [] → VTs m (l ++ k) (us ++ vs) []
  | [], k, us, vs, h, h' => by obtain ⟨rfl, _⟩ := h; exact h'
  | a :: l, k, us, vs, h, h' => by
    have ha := h.ntup
    obtain ⟨u, us', b1, b2, rfl, e, h1, h2⟩ := (VTs_cons ha).1 h
    obtain ⟨rfl, rfl⟩ : b1 = [] ∧ b2 = [] := by simpa using e.symm
    exact (VTs_cons ha).2 ⟨u, us' ++ vs, [], [], rfl, rfl, h1, vts_app h2 h'⟩
variable {xs : List (Operand × AV)} {f : FuncId} {cap : List AV} {ats : Array TypeId} {r : AV}
/-- A call of a closure that only computes. -/
theorem OpT.callC (h : PS P f (xs.map (·.2) ++ cap) r) (hs : st1s cap = true) (ht : noTup xs = true) : OpT P ⟨dst, .call ⟨.value x, (xs.map (·.1)).toArray, ats⟩, ty, pos, after, g⟩ ((x, .fn f cap) :: xs) [] r.frz [] := by
  intro nt m0 T S a w hx hS hd hr
  obtain ⟨m, N, Z, rfl, h2, h3, h4⟩ := hr
  obtain ⟨vs, e1, h5⟩ := h4.ev (hx (x, .fn f cap) (by simp))
  injection e1 with e1
  refine wp_callV e1 h.fn ?_
  refine (h.run S m N Z _ h2 h3.self (by
    have := vts_app (vts_of (noTup_spec ht) fun q hq => h4.ev (hx q (by simp [hq]))) (vts_cap hs h5)
    simpa [Function.comp_def] using this)).mono ?_
  rintro e w' ⟨v, r', S', m', N', Z', br, rfl, rfl, hm, G', hv, rfl, rfl⟩
  obtain ⟨G2, hle⟩ := Good.freeze (ex := br) (ex' := []) (by simpa using h3.after G') _ rfl
  exact ⟨v, rfl, { m' with F := fun b => m'.F b ∨ b ∈ br }, N', Z', rfl, hm, G2, ((h4.mono G'.le).mono hle).put hd (VV.frz hle (fun b hb => ⟨.inr hb, rfl⟩) hv)⟩
variable {X p : Nat} {o o' : AO}
/-- A call of a closure that turns one object. -/
theorem OpT.callCO (h : PO P f (xs.map (·.2) ++ cap) X o r o') (hs : st1s cap = true) (ht : noTup xs = true) : OpT P ⟨dst, .call ⟨.value x, (xs.map (·.1)).toArray, ats⟩, ty, pos, after, g⟩ ((x, .fn f cap) :: xs) [(p, (X, o))] r.frz [(p, (X, o'))] := by
  intro nt m0 T S a w hx hS hd hr
  obtain ⟨m, N, Z, rfl, h2, h3, h4⟩ := hr
  have h2' : Z.map (·.1) = S := h2
  have hSp := hS (p, (X, o)) (by simp)
  simp only at hSp
  have hSp2 := hSp
  rw [← h2', List.getElem?_map] at hSp2
  obtain ⟨vs, e1, hc5⟩ := h4.ev (hx (x, .fn f cap) (by simp))
  injection e1 with e1
  cases hz : Z[p]? with
  | none => rw [hz] at hSp2; cases hSp2
  | some z =>
    rw [hz] at hSp2
    simp only [Option.map_some, Option.some.injEq] at hSp2
    have G1 := h3.perm (perm_erase hz)
    refine wp_callV e1 h.fn ?_
    refine (h.run (S.eraseIdx p) m N (z :: Z.eraseIdx p) _ (by simp [hSp2, map_erase, h2']) G1.self (by
      have := vts_app (vts_of (noTup_spec ht) fun q hq => h4.ev (hx q (by simp [hq]))) (vts_cap hs hc5)
      simpa [Function.comp_def] using this)).mono ?_
    rintro e w' ⟨v, r', S', m', N', Z', br, rfl, rfl, hm, G', hv, rfl, rfl⟩
    obtain ⟨G2, hle⟩ := Good.freeze (ex := br) (ex' := []) (by simpa using h3.after G') _ rfl
    cases Z' with
    | nil => simp at hm
    | cons z' Zr =>
      simp only [List.map_cons, List.cons_append, List.nil_append, List.cons.injEq] at hm
      obtain ⟨Z2, h5, h6⟩ := put_back (z' := z') hSp hm.2
      refine ⟨v, rfl, { m' with F := fun b => m'.F b ∨ b ∈ br }, N', Z2, rfl, ?_, G2.perm h5.symm, ((h4.mono G'.le).mono hle).put hd (VV.frz hle (fun b hb => ⟨.inr hb, rfl⟩) hv)⟩
      simp only [setAll]
      rw [h6, hm.1]
end
namespace W
variable {P : Program} {dst : Option Tmp} {ty t : TypeId} {pos : String} {after : Array Edge} {g : Option (Nat × Bool)} {T : List (Nat × AV)} {S : List Slot} {c : Option (List Bool)} {x : Operand} {v r r' : AV} {f : FuncId} {cap : List AV} {ats : Array TypeId} {X p : Nat} {o o' : AO}
theorem boxF (hx : Rd c T x v) (hs : v.stor = true) {b : AV} [hf : Frz v b] : Stp c P ⟨dst, .box t x, ty, pos, after, g⟩ T S [(x, v)] [] (.fp b.cells) [] := ⟨hf.h ▸ OpT.boxF hs, .cons hx .nil, .nil⟩
theorem func0 : Stp c P ⟨dst, .makeFunc (.func f) #[] #[], ty, pos, after, g⟩ T S [] [] (.fn f []) [] := ⟨.makeFunc (xs := []) rfl, .nil, .nil⟩
theorem callC0  (hx : Rd c T x (.fn f cap))  (h : PS P f (cap) r) (hs : st1s cap = true) (ht : noTup [] = true) (hf : r.frz = r') : Stp c P ⟨dst, .call ⟨.value x, #[], ats⟩, ty, pos, after, g⟩ T S [(x, .fn f cap)] [] r' [] := ⟨hf ▸ OpT.callC (xs := []) h hs ht, (.cons hx .nil), .nil⟩
theorem callCO0  (hx : Rd c T x (.fn f cap))  (hSp : At S p (X, o)) (h : PO P f (cap) X o r o') (hs : st1s cap = true) (ht : noTup [] = true) (hf : r.frz = r') : Stp c P ⟨dst, .call ⟨.value x, #[], ats⟩, ty, pos, after, g⟩ T S [(x, .fn f cap)] [(p, (X, o))] r' [(p, (X, o'))] := ⟨hf ▸ OpT.callCO (xs := []) h hs ht, (.cons hx .nil), .cons hSp .nil⟩
theorem callC1 {x0 : Operand} {v0 : AV} (hx : Rd c T x (.fn f cap)) (h0 : Rd c T x0 v0) (h : PS P f (v0 :: cap) r) (hs : st1s cap = true) (ht : noTup [(x0, v0)] = true) (hf : r.frz = r') : Stp c P ⟨dst, .call ⟨.value x, #[x0], ats⟩, ty, pos, after, g⟩ T S [(x, .fn f cap), (x0, v0)] [] r' [] := ⟨hf ▸ OpT.callC (xs := [(x0, v0)]) h hs ht, (.cons hx (.cons h0 .nil)), .nil⟩
theorem callCO1 {x0 : Operand} {v0 : AV} (hx : Rd c T x (.fn f cap)) (h0 : Rd c T x0 v0) (hSp : At S p (X, o)) (h : PO P f (v0 :: cap) X o r o') (hs : st1s cap = true) (ht : noTup [(x0, v0)] = true) (hf : r.frz = r') : Stp c P ⟨dst, .call ⟨.value x, #[x0], ats⟩, ty, pos, after, g⟩ T S [(x, .fn f cap), (x0, v0)] [(p, (X, o))] r' [(p, (X, o'))] := ⟨hf ▸ OpT.callCO (xs := [(x0, v0)]) h hs ht, (.cons hx (.cons h0 .nil)), .cons hSp .nil⟩
theorem callC2 {x0 : Operand} {v0 : AV} {x1 : Operand} {v1 : AV} (hx : Rd c T x (.fn f cap)) (h0 : Rd c T x0 v0) (h1 : Rd c T x1 v1) (h : PS P f (v0 :: v1 :: cap) r) (hs : st1s cap = true) (ht : noTup [(x0, v0), (x1, v1)] = true) (hf : r.frz = r') : Stp c P ⟨dst, .call ⟨.value x, #[x0, x1], ats⟩, ty, pos, after, g⟩ T S [(x, .fn f cap), (x0, v0), (x1, v1)] [] r' [] := ⟨hf ▸ OpT.callC (xs := [(x0, v0), (x1, v1)]) h hs ht, (.cons hx (.cons h0 (.cons h1 .nil))), .nil⟩
theorem callCO2 {x0 : Operand} {v0 : AV} {x1 : Operand} {v1 : AV} (hx : Rd c T x (.fn f cap)) (h0 : Rd c T x0 v0) (h1 : Rd c T x1 v1) (hSp : At S p (X, o)) (h : PO P f (v0 :: v1 :: cap) X o r o') (hs : st1s cap = true) (ht : noTup [(x0, v0), (x1, v1)] = true) (hf : r.frz = r') : Stp c P ⟨dst, .call ⟨.value x, #[x0, x1], ats⟩, ty, pos, after, g⟩ T S [(x, .fn f cap), (x0, v0), (x1, v1)] [(p, (X, o))] r' [(p, (X, o'))] := ⟨hf ▸ OpT.callCO (xs := [(x0, v0), (x1, v1)]) h hs ht, (.cons hx (.cons h0 (.cons h1 .nil))), .cons hSp .nil⟩
theorem callC3 {x0 : Operand} {v0 : AV} {x1 : Operand} {v1 : AV} {x2 : Operand} {v2 : AV} (hx : Rd c T x (.fn f cap)) (h0 : Rd c T x0 v0) (h1 : Rd c T x1 v1) (h2 : Rd c T x2 v2) (h : PS P f (v0 :: v1 :: v2 :: cap) r) (hs : st1s cap = true) (ht : noTup [(x0, v0), (x1, v1), (x2, v2)] = true) (hf : r.frz = r') : Stp c P ⟨dst, .call ⟨.value x, #[x0, x1, x2], ats⟩, ty, pos, after, g⟩ T S [(x, .fn f cap), (x0, v0), (x1, v1), (x2, v2)] [] r' [] := ⟨hf ▸ OpT.callC (xs := [(x0, v0), (x1, v1), (x2, v2)]) h hs ht, (.cons hx (.cons h0 (.cons h1 (.cons h2 .nil)))), .nil⟩
theorem callCO3 {x0 : Operand} {v0 : AV} {x1 : Operand} {v1 : AV} {x2 : Operand} {v2 : AV} (hx : Rd c T x (.fn f cap)) (h0 : Rd c T x0 v0) (h1 : Rd c T x1 v1) (h2 : Rd c T x2 v2) (hSp : At S p (X, o)) (h : PO P f (v0 :: v1 :: v2 :: cap) X o r o') (hs : st1s cap = true) (ht : noTup [(x0, v0), (x1, v1), (x2, v2)] = true) (hf : r.frz = r') : Stp c P ⟨dst, .call ⟨.value x, #[x0, x1, x2], ats⟩, ty, pos, after, g⟩ T S [(x, .fn f cap), (x0, v0), (x1, v1), (x2, v2)] [(p, (X, o))] r' [(p, (X, o'))] := ⟨hf ▸ OpT.callCO (xs := [(x0, v0), (x1, v1), (x2, v2)]) h hs ht, (.cons hx (.cons h0 (.cons h1 (.cons h2 .nil)))), .cons hSp .nil⟩
theorem callC4 {x0 : Operand} {v0 : AV} {x1 : Operand} {v1 : AV} {x2 : Operand} {v2 : AV} {x3 : Operand} {v3 : AV} (hx : Rd c T x (.fn f cap)) (h0 : Rd c T x0 v0) (h1 : Rd c T x1 v1) (h2 : Rd c T x2 v2) (h3 : Rd c T x3 v3) (h : PS P f (v0 :: v1 :: v2 :: v3 :: cap) r) (hs : st1s cap = true) (ht : noTup [(x0, v0), (x1, v1), (x2, v2), (x3, v3)] = true) (hf : r.frz = r') : Stp c P ⟨dst, .call ⟨.value x, #[x0, x1, x2, x3], ats⟩, ty, pos, after, g⟩ T S [(x, .fn f cap), (x0, v0), (x1, v1), (x2, v2), (x3, v3)] [] r' [] := ⟨hf ▸ OpT.callC (xs := [(x0, v0), (x1, v1), (x2, v2), (x3, v3)]) h hs ht, (.cons hx (.cons h0 (.cons h1 (.cons h2 (.cons h3 .nil))))), .nil⟩
theorem callCO4 {x0 : Operand} {v0 : AV} {x1 : Operand} {v1 : AV} {x2 : Operand} {v2 : AV} {x3 : Operand} {v3 : AV} (hx : Rd c T x (.fn f cap)) (h0 : Rd c T x0 v0) (h1 : Rd c T x1 v1) (h2 : Rd c T x2 v2) (h3 : Rd c T x3 v3) (hSp : At S p (X, o)) (h : PO P f (v0 :: v1 :: v2 :: v3 :: cap) X o r o') (hs : st1s cap = true) (ht : noTup [(x0, v0), (x1, v1), (x2, v2), (x3, v3)] = true) (hf : r.frz = r') : Stp c P ⟨dst, .call ⟨.value x, #[x0, x1, x2, x3], ats⟩, ty, pos, after, g⟩ T S [(x, .fn f cap), (x0, v0), (x1, v1), (x2, v2), (x3, v3)] [(p, (X, o))] r' [(p, (X, o'))] := ⟨hf ▸ OpT.callCO (xs := [(x0, v0), (x1, v1), (x2, v2), (x3, v3)]) h hs ht, (.cons hx (.cons h0 (.cons h1 (.cons h2 (.cons h3 .nil))))), .cons hSp .nil⟩
theorem callC5 {x0 : Operand} {v0 : AV} {x1 : Operand} {v1 : AV} {x2 : Operand} {v2 : AV} {x3 : Operand} {v3 : AV} {x4 : Operand} {v4 : AV} (hx : Rd c T x (.fn f cap)) (h0 : Rd c T x0 v0) (h1 : Rd c T x1 v1) (h2 : Rd c T x2 v2) (h3 : Rd c T x3 v3) (h4 : Rd c T x4 v4) (h : PS P f (v0 :: v1 :: v2 :: v3 :: v4 :: cap) r) (hs : st1s cap = true) (ht : noTup [(x0, v0), (x1, v1), (x2, v2), (x3, v3), (x4, v4)] = true) (hf : r.frz = r') : Stp c P ⟨dst, .call ⟨.value x, #[x0, x1, x2, x3, x4], ats⟩, ty, pos, after, g⟩ T S [(x, .fn f cap), (x0, v0), (x1, v1), (x2, v2), (x3, v3), (x4, v4)] [] r' [] := ⟨hf ▸ OpT.callC (xs := [(x0, v0), (x1, v1), (x2, v2), (x3, v3), (x4, v4)]) h hs ht, (.cons hx (.cons h0 (.cons h1 (.cons h2 (.cons h3 (.cons h4 .nil)))))), .nil⟩
theorem callCO5 {x0 : Operand} {v0 : AV} {x1 : Operand} {v1 : AV} {x2 : Operand} {v2 : AV} {x3 : Operand} {v3 : AV} {x4 : Operand} {v4 : AV} (hx : Rd c T x (.fn f cap)) (h0 : Rd c T x0 v0) (h1 : Rd c T x1 v1) (h2 : Rd c T x2 v2) (h3 : Rd c T x3 v3) (h4 : Rd c T x4 v4) (hSp : At S p (X, o)) (h : PO P f (v0 :: v1 :: v2 :: v3 :: v4 :: cap) X o r o') (hs : st1s cap = true) (ht : noTup [(x0, v0), (x1, v1), (x2, v2), (x3, v3), (x4, v4)] = true) (hf : r.frz = r') : Stp c P ⟨dst, .call ⟨.value x, #[x0, x1, x2, x3, x4], ats⟩, ty, pos, after, g⟩ T S [(x, .fn f cap), (x0, v0), (x1, v1), (x2, v2), (x3, v3), (x4, v4)] [(p, (X, o))] r' [(p, (X, o'))] := ⟨hf ▸ OpT.callCO (xs := [(x0, v0), (x1, v1), (x2, v2), (x3, v3), (x4, v4)]) h hs ht, (.cons hx (.cons h0 (.cons h1 (.cons h2 (.cons h3 (.cons h4 .nil)))))), .cons hSp .nil⟩
theorem callC6 {x0 : Operand} {v0 : AV} {x1 : Operand} {v1 : AV} {x2 : Operand} {v2 : AV} {x3 : Operand} {v3 : AV} {x4 : Operand} {v4 : AV} {x5 : Operand} {v5 : AV} (hx : Rd c T x (.fn f cap)) (h0 : Rd c T x0 v0) (h1 : Rd c T x1 v1) (h2 : Rd c T x2 v2) (h3 : Rd c T x3 v3) (h4 : Rd c T x4 v4) (h5 : Rd c T x5 v5) (h : PS P f (v0 :: v1 :: v2 :: v3 :: v4 :: v5 :: cap) r) (hs : st1s cap = true) (ht : noTup [(x0, v0), (x1, v1), (x2, v2), (x3, v3), (x4, v4), (x5, v5)] = true) (hf : r.frz = r') : Stp c P ⟨dst, .call ⟨.value x, #[x0, x1, x2, x3, x4, x5], ats⟩, ty, pos, after, g⟩ T S [(x, .fn f cap), (x0, v0), (x1, v1), (x2, v2), (x3, v3), (x4, v4), (x5, v5)] [] r' [] := ⟨hf ▸ OpT.callC (xs := [(x0, v0), (x1, v1), (x2, v2), (x3, v3), (x4, v4), (x5, v5)]) h hs ht, (.cons hx (.cons h0 (.cons h1 (.cons h2 (.cons h3 (.cons h4 (.cons h5 .nil))))))), .nil⟩
theorem callCO6 {x0 : Operand} {v0 : AV} {x1 : Operand} {v1 : AV} {x2 : Operand} {v2 : AV} {x3 : Operand} {v3 : AV} {x4 : Operand} {v4 : AV} {x5 : Operand} {v5 : AV} (hx : Rd c T x (.fn f cap)) (h0 : Rd c T x0 v0) (h1 : Rd c T x1 v1) (h2 : Rd c T x2 v2) (h3 : Rd c T x3 v3) (h4 : Rd c T x4 v4) (h5 : Rd c T x5 v5) (hSp : At S p (X, o)) (h : PO P f (v0 :: v1 :: v2 :: v3 :: v4 :: v5 :: cap) X o r o') (hs : st1s cap = true) (ht : noTup [(x0, v0), (x1, v1), (x2, v2), (x3, v3), (x4, v4), (x5, v5)] = true) (hf : r.frz = r') : Stp c P ⟨dst, .call ⟨.value x, #[x0, x1, x2, x3, x4, x5], ats⟩, ty, pos, after, g⟩ T S [(x, .fn f cap), (x0, v0), (x1, v1), (x2, v2), (x3, v3), (x4, v4), (x5, v5)] [(p, (X, o))] r' [(p, (X, o'))] := ⟨hf ▸ OpT.callCO (xs := [(x0, v0), (x1, v1), (x2, v2), (x3, v3), (x4, v4), (x5, v5)]) h hs ht, (.cons hx (.cons h0 (.cons h1 (.cons h2 (.cons h3 (.cons h4 (.cons h5 .nil))))))), .cons hSp .nil⟩
end W
end Go.Proofs.Ytcfleoaldoebhaa

/-
  Ranges over functions: what an iterator does, and the loop over it. No conditions.
-/
import Derived.Test.YtcfleoaldoebhaaAbs21
namespace Go.Proofs.Ytcfleoaldoebhaa
set_option linter.unusedVariables false
set_option linter.unusedSimpArgs false
variable {ro : Option Nat}
open Go.RowKit

/-- What a call of yield does: from frame slots that J tells for the i-th round it goes to those of the next round, or says 'no more'. -/
def Yld (P : Program) (y : Value) (xs : List (List AV)) (J : Nat → List Slot → Prop) (Jx : List Slot → Prop) : Prop :=
  ∃ l, y = .func (.yield l) #[] #[] ∧ ∀ i vs, xs[i]? = some vs → ∀ Sl, J i Sl → ∀ (Si : List Slot) (m : Mem) (N : Nat) (Z : Zs) (us : List Value), Z.map (·.1) = Si ++ Sl → Good m m N Z [] → VTs m vs us [] →
    ∃ f tmps assign body, (Instr.yield l us.toArray).run P m.w = .ok (.round l f tmps assign body) m.w ∧ RoundIn (FW none) 0 P l f tmps assign body m.w fun e w' =>
      ∃ b Sl' m' N' Z', e = .returned (.bool b) ∧ m'.w = w' ∧ Z'.map (·.1) = Si ++ Sl' ∧ Good m m' N' Z' [] ∧ (b = true → J (i + 1) Sl') ∧ (b = false → Jx Sl')
/-- An iterator: it yields xs, one after the other. -/
def Itr (P : Program) (f : FuncId) (cap : List AV) (xs : List (List AV)) : Prop :=
  isFn P f = true ∧ ∀ y J Jx, Yld P y xs J Jx → ∀ Sl, J 0 Sl → Spec P f (.prim y :: cap) Sl fun _ S' => J xs.length S' ∨ Jx S'

theorem slots_split {α β : Type} {f : α → β} : ∀ {Z : List α} {A B : List β}, Z.map f = A ++ B → ∃ ZA ZB, Z = ZA ++ ZB ∧ ZA.map f = A ∧ ZB.map f = B
  | Z, [], B, h => ⟨[], Z, rfl, rfl, h⟩
  | [], a :: A, B, h => by simp at h
  | z :: Z, a :: A, B, h => by
    simp only [List.map_cons, List.cons_append, List.cons.injEq] at h
    obtain ⟨ZA, ZB, e, h1, h2⟩ := slots_split h.2
    exact ⟨z :: ZA, ZB, by simp [e], by simp [h.1, h1], h2⟩

section
variable {P : Program} {nt : Nat} {ops : Array Oper} {Q : Exit → St → Prop} {rest : List Oper} {T : List (Nat × AV)} {S Si Sl Sf : List Slot} {y : Value} {xs : List (List AV)} {J : Nat → List Slot → Prop} {Jx : List Slot → Prop}
variable {dst : Option Tmp} {ty : TypeId} {pos : String} {after : Array Edge} {x : Operand} {ys : List (Operand × AV)} {ats : Array TypeId} {i : Nat}
/-- A call of yield in an iterator's walk. -/
theorem AOps.yield (hY : Yld P y xs J Jx) (hJ : J i Sl) (hi : xs[i]? = some (ys.map (·.2))) (hx : ev T x = some (.prim y)) (has : Evs T ys) (ht : noTup ys = true) (hd : dstOk dst nt = true)
    (kt : ∀ Sl', J (i + 1) Sl' → AOps ro P nt ops Q rest ⟨putD T dst (.prim (.bool true)), Si ++ (Sl' ++ Sf)⟩) (kf : ∀ Sl', Jx Sl' → AOps ro P nt ops Q rest ⟨putD T dst (.prim (.bool false)), Si ++ (Sl' ++ Sf)⟩) :
    AOps ro P nt ops Q (⟨dst, .call ⟨.value x, (ys.map (·.1)).toArray, ats⟩, ty, pos, after, none⟩ :: rest) ⟨T, Si ++ (Sl ++ Sf)⟩ := by
  rintro m0 a w ⟨m, N, Z, rfl, h2, h3, h4⟩
  refine wpListIn_plain rfl fun K hK => ?_
  obtain ⟨l, rfl, hY⟩ := hY
  have hyv := (h4.ev hx).prim
  obtain ⟨Zi, Zr, rfl, hzi, hzr⟩ := slots_split (A := Si) (B := Sl ++ Sf) h2
  obtain ⟨Zl, Zf, rfl, hzl, hzf⟩ := slots_split hzr
  have hp : (Zi ++ (Zl ++ Zf)).Perm ((Zi ++ Zf) ++ Zl) := by
    rw [List.append_assoc]
    exact List.Perm.append_left _ List.perm_append_comm
  have hus : VTs m (ys.map (·.2)) (ys.map fun q => a.eval q.1) [] := vts_of (noTup_spec ht) fun q hq => h4.ev (has.all q hq)
  obtain ⟨f, tmps, assign, body, hrun, hR⟩ := hY i _ hi Sl hJ (Si ++ Sf) m N _ _ (by simp [hzi, hzf, hzl]) (h3.perm hp).self hus
  refine ⟨fun _ _ => trivial, ?_⟩
  have hexec : (Oper.semAt (FW ro).round a.eval ⟨dst, .call ⟨.value x, (ys.map (·.1)).toArray, ats⟩, ty, pos, after, none⟩).run P m.w = .ok (.round l f tmps assign body) m.w := by
    rw [Oper.semAt_eq _ _ _ (by simp)]
    simp only [execOp, resolve, hyv, Deferred.ofValue, invoke, Sem.run_bind, Sem.run_pure, Result.andThen_ok]
    rw [show (#[] : Array Value) ++ Array.map a.eval (ys.map (·.1)).toArray = (ys.map fun q => a.eval q.1).toArray from by simp [Function.comp_def]]
    exact hrun
  rw [hexec]
  refine ⟨fun h => (by simp [FW, Fence.wide] at h), RoundIn.mono (F := FW ro) (n := 0 - 1) hR fun e w' he => ?_⟩
  obtain ⟨b, Sl', m', N', Z', rfl, rfl, hm, G', kT, kF⟩ := he
  obtain ⟨Za, Zl', rfl, hza, hzl'⟩ := slots_split hm
  obtain ⟨Zi', Zf', rfl, hzi', hzf'⟩ := slots_split hza
  have hp' : ((Zi' ++ Zf') ++ Zl').Perm (Zi' ++ (Zl' ++ Zf')) := by
    rw [List.append_assoc]
    exact List.Perm.append_left _ List.perm_append_comm
  refine hK _ _ ?_
  have hrel : Rel nt m0 ⟨putD T dst (.prim (.bool b)), Si ++ (Sl' ++ Sf)⟩ (a.put dst (.bool b)) m'.w :=
    ⟨m', N', _, rfl, by simp [hzi', hzf', hzl'], (h3.after G').perm hp', (h4.mono G'.le).put (dstOk_lt hd) (vv_prim _)⟩
  cases b with
  | true => exact kt Sl' (kT rfl) m0 _ _ hrel
  | false => exact kf Sl' (kF rfl) m0 _ _ hrel

/-! ### the loop's record -/
theorem Good.newRaw {m0 m : Mem} {N : Nat} {R : Zs} {ex : List Nat} (G : Good m0 m N R ex) (o : Obj) (m' : Mem) (hm' : m' = ⟨m.μ, fun y => m.U y ∨ y = N, m.w.alloc o, m.F⟩) :
    Good m0 m' (N + 1) (((N, .raw m.w.heap.size o), [m.w.heap.size]) :: R) ex ∧ m.Le m' := by
  subst hm'
  have hle : m.Le ⟨m.μ, fun y => m.U y ∨ y = N, m.w.alloc o, m.F⟩ := ⟨fun y h => .inl h, fun _ _ _ h => h, fun b hb => ⟨hb, Below.heap_alloc _ _ _ (G.frz b hb)⟩⟩
  refine ⟨Good.swap (zs := []) (zs' := [((N, .raw m.w.heap.size o), [m.w.heap.size])]) (R := R) (ex := ex) (ex' := ex) G hle (by omega) (fun y _ _ => rfl) (fun b hb _ _ => Below.heap_alloc _ _ _ hb) ?_ ?_ ?_ ?_ ?_ ?_ ?_ rfl rfl rfl (by simp), hle⟩
  · intro z hz
    simp only [List.mem_singleton] at hz
    subst hz
    exact ⟨rfl, .inr rfl, World.alloc_heap_new _ _⟩
  · refine List.nodup_append.2 ⟨by simp [Zs.own], (List.nodup_append.1 G.own).2.1, fun b hb c hc e => ?_⟩
    simp only [Zs.own, List.flatMap_cons, List.flatMap_nil, List.append_nil, List.mem_singleton] at hb
    have := (G.blk c (by simp [hc])).1
    omega
  · intro b hb
    simp only [Zs.own, List.flatMap_cons, List.flatMap_nil, List.append_nil, List.mem_append, List.mem_singleton] at hb
    rcases hb with rfl | hb
    · exact ⟨by simp, fun h => Nat.lt_irrefl _ (G.frz _ h), .inr (.inr (Nat.le_refl _))⟩
    · have := G.blk b (by simp [hb])
      exact ⟨by have := this.1; simp; omega, this.2, .inr (.inl hb)⟩
  · intro b hb
    exact ⟨by have := G.frz b hb; simp; omega, .inl hb⟩
  · simp [Zs.keys]
  · intro y hy
    simp only [Zs.keys, List.map_cons, List.map_nil, List.mem_singleton] at hy
    subst hy
    exact ⟨by omega, .inr (Nat.le_refl _)⟩
  · intro y hy
    rcases hy with hy | rfl
    · have := G.usedN y hy; exact ⟨by omega, .inl hy⟩
    · exact ⟨by omega, .inr (.inr (Nat.le_refl _))⟩
/-- A new block that is frozen at once. -/
theorem Good.newFrz {m0 m : Mem} {N : Nat} {R : Zs} {ex : List Nat} (G : Good m0 m N R ex) (o : Obj) (m' : Mem) (hm' : m' = ⟨m.μ, m.U, m.w.alloc o, fun b => m.F b ∨ b = m.w.heap.size⟩) :
    Good m0 m' N R ex ∧ m.Le m' := by
  subst hm'
  have hle : m.Le ⟨m.μ, m.U, m.w.alloc o, fun b => m.F b ∨ b = m.w.heap.size⟩ := ⟨fun y h => h, fun _ _ _ h => h, fun b hb => ⟨.inl hb, Below.heap_alloc _ _ _ (G.frz b hb)⟩⟩
  refine ⟨Good.swap (zs := []) (zs' := []) (R := R) (ex := ex) (ex' := ex) G hle (by omega) (fun y _ _ => rfl) (fun b hb _ _ => Below.heap_alloc _ _ _ hb) (fun z hz => by cases hz) ?_ ?_ ?_ (by simp [Zs.keys]) (fun y hy => by simp [Zs.keys] at hy) ?_ rfl rfl rfl (by simp), hle⟩
  · simpa [Zs.own] using (List.nodup_append.1 G.own).2.1
  · intro b hb
    simp only [Zs.own, List.flatMap_nil, List.nil_append] at hb
    have := G.blk b (by simp [hb])
    refine ⟨by have := this.1; simp; omega, ?_, .inr (.inl hb)⟩
    rintro (h | h)
    · exact this.2 h
    · have := this.1; omega
  · intro b hb
    rcases hb with hb | rfl
    · exact ⟨by have := G.frz b hb; simp; omega, .inl hb⟩
    · exact ⟨by simp, .inr (.inr (.inr (Nat.le_refl _)))⟩
  · intro y hy
    exact ⟨G.usedN y hy, .inl hy⟩
theorem Good.setRaw {m0 m : Mem} {N X b : Nat} {o : Obj} {bs : List Nat} {R : Zs} {ex : List Nat} (G : Good m0 m N (((X, .raw b o), bs) :: R) ex) (o' : Obj) (m' : Mem) (hm' : m' = { m with w := m.w.putObj b o' }) :
    Good m0 m' N (((X, .raw b o'), bs) :: R) ex ∧ m.Le m' := by
  subst hm'
  obtain ⟨rfl, hU, hb⟩ := G.obj _ (List.mem_cons_self ..)
  have hbk := G.blk b (by simp [Zs.own])
  have hle : m.Le { m with w := m.w.putObj b o' } := ⟨fun y h => h, fun _ _ _ h => h, fun c hc => ⟨hc, World.putObj_heap_other (by rintro rfl; exact hbk.2 hc)⟩⟩
  have own := G.own
  refine ⟨Good.swap (zs := [((X, .raw b o), [b])]) (zs' := [((X, .raw b o'), [b])]) (R := R) (ex := ex) (ex' := ex) G hle (by omega) (fun y _ _ => rfl) (fun c _ hc _ => World.putObj_heap_other (by simpa [Zs.own] using hc)) ?_ ?_ ?_ ?_ (by simp [Zs.keys]) ?_ ?_ rfl rfl rfl (by simp), hle⟩
  · intro z hz
    simp only [List.mem_singleton] at hz
    subst hz
    exact ⟨rfl, hU, World.putObj_heap_same hbk.1⟩
  · have hp : (Zs.own (((X, AO.raw b o), [b]) :: R) ++ ex).Perm (R.own ++ ([b] ++ ex)) := by
      rw [own_cons, List.append_assoc]
      refine List.perm_append_comm.trans ?_
      rw [List.append_assoc]
      exact List.Perm.append_left _ List.perm_append_comm
    have := (List.nodup_append.1 (hp.nodup_iff.1 own)).2.1
    simpa [Zs.own] using this
  · intro c hc
    simp only [Zs.own, List.flatMap_cons, List.flatMap_nil, List.append_nil, List.mem_append, List.mem_singleton] at hc
    have hk := G.blk c (by simp only [own_cons, List.mem_append, List.mem_singleton]; rcases hc with h | h <;> simp [h])
    exact ⟨by simpa using hk.1, hk.2, by rcases hc with h | h <;> simp [Zs.own, h]⟩
  · intro c hc
    exact ⟨by simpa using G.frz c hc, .inl hc⟩
  · intro y hy
    simp only [Zs.keys, List.map_cons, List.map_nil, List.mem_singleton] at hy ⊢
    subst hy
    exact ⟨G.keyN y (by simp [Zs.keys]), .inl rfl⟩
  · intro y hy
    exact ⟨G.usedN y hy, .inl hy⟩
/-- A note of what some values read as. -/
theorem Good.note {m0 m : Mem} {N : Nat} {R : Zs} {ex : List Nat} (G : Good m0 m N R ex) (K : AV → Value → Prop) (hK : ∀ v u, K v u → VV m v u []) (m' : Mem) (hm' : m' = { m with U := fun y => m.U y ∨ y = N }) :
    Good m0 m' (N + 1) (((N, .tv K), []) :: R) ex ∧ m.Le m' := by
  subst hm'
  have hle : m.Le { m with U := fun y => m.U y ∨ y = N } := ⟨fun y h => .inl h, fun _ _ _ h => h, fun b hb => ⟨hb, rfl⟩⟩
  refine ⟨Good.one (zs := []) (zs' := [((N, .tv K), [])]) (R := R) G _ (N + 1) rfl rfl hle (by omega) (fun y _ hy => rfl) ?_ rfl (by simp [Zs.keys]) ?_ ?_, hle⟩
  · intro z hz
    simp only [List.mem_singleton] at hz
    subst hz
    exact ⟨rfl, .inr rfl, fun v u h => (hK v u h).mono hle (by simp)⟩
  · intro y hy
    simp only [Zs.keys, List.map_cons, List.map_nil, List.mem_singleton] at hy
    subst hy
    exact ⟨by omega, .inr (Nat.le_refl _)⟩
  · intro y hy
    rcases hy with hy | rfl
    · have := G.usedN y hy; exact ⟨by omega, .inl hy⟩
    · exact ⟨by omega, .inr (.inr (Nat.le_refl _))⟩
end

section
variable {P : Program} {nt : Nat} {m0 m : Mem}
theorem Rel.setRaw {T : List (Nat × AV)} {pre G : List Slot} {X l : Nat} {o o' : Obj} {a : Act} {w : World} (h : Rel nt m0 ⟨T, pre ++ (X, .raw l o) :: G⟩ a w) : w.heap[l]? = some o ∧ Rel nt m0 ⟨T, pre ++ (X, .raw l o') :: G⟩ a (w.putObj l o') := by
  obtain ⟨m, N, Z, rfl, h2, h3, h4⟩ := h
  obtain ⟨Zp, Zr, rfl, hzp, hzr⟩ := slots_split (A := pre) (B := (X, .raw l o) :: G) h2
  cases Zr with
  | nil => simp at hzr
  | cons z Zg =>
    simp only [List.map_cons, List.cons.injEq] at hzr
    obtain ⟨⟨x, ob⟩, bs⟩ := z
    obtain ⟨hz, hzg⟩ := hzr
    simp only at hz
    injection hz with hz1 hz2
    subst hz1 hz2
    have G1 := h3.perm List.perm_middle
    have hO := G1.obj _ (List.mem_cons_self ..)
    obtain ⟨G2, hle⟩ := G1.setRaw o' _ rfl
    exact ⟨hO.2.2, _, N, Zp ++ ((x, .raw l o'), bs) :: Zg, rfl, by simp [hzp, hzg], G2.perm List.perm_middle.symm, h4.mono hle⟩
/-- The round's own temporaries. -/
def zipT : List (Nat × AV) → List Nat → List AV → List (Nat × AV)
  | T, d :: ds, v :: vs => zipT ((d, v) :: T) ds vs
  | T, _, _ => T
theorem TRel.zip : ∀ {ps : List Nat} {vs : List AV} {us : List Value} {T : List (Nat × AV)} {tm : Array Value}, TRel m0 m nt T { tmps := tm, defers := [] } → VTs m vs us [] → (∀ d ∈ ps, d < nt) → TRel m0 m nt (zipT T ps vs) { tmps := (ps.zip us).foldl (fun t q => t.setIfInBounds q.1 q.2) tm, defers := [] }
  | [], vs, us, T, tm, h, hv, hd => by cases vs <;> exact h
  | d :: ps, [], us, T, tm, h, hv, hd => by obtain ⟨rfl, _⟩ := hv; exact h
  | d :: ps, v :: vs, us, T, tm, h, hv, hd => by
    obtain ⟨u, us', b1, b2, rfl, e, h1, h2⟩ := (VTs_cons hv.ntup).1 hv
    obtain ⟨rfl, rfl⟩ : b1 = [] ∧ b2 = [] := by simpa using e.symm
    have h3 := h.put (dst := some d) (fun e he => by cases he; exact hd d (by simp)) h1
    exact TRel.zip (T := (d, v) :: T) h3 h2 fun d hd' => hd d (by simp [hd'])
def asgQ (F1 F2 : List Slot) (K : St → Prop) : Exit → St → Prop
  | .normal, st => ∃ pre, (pre ++ F1).Sublist st.S ∧ K ⟨st.T, pre ++ F2⟩
  | _, _ => False
def rndQ (P : Program) (nt : Nat) (Q : Exit → St → Prop) (T : List (Nat × AV)) (Sf : List Slot) (nxt : List Slot → Prop) (F : List Slot) : Exit → St → Prop
  | .normal, st => ∃ pre, (pre ++ F).Sublist st.S ∧ nxt pre
  | .ret, st => ∃ pre, (pre ++ F).Sublist st.S ∧ AWP none P nt .ret Q ⟨T, pre ++ Sf⟩
  | .exit id, st => ∃ pre, (pre ++ F).Sublist st.S ∧ AWP none P nt (.exit id) Q ⟨T, pre ++ Sf⟩
  | _, _ => False
/-- A loop over an iterator. -/
theorem AWP.rangeF {β : Type} {g : Operand} {ps : Array Tmp} {assign body : Code} {Q : Exit → St → Prop} {T : List (Nat × AV)} {S Sf : List Slot} {gf : FuncId} {cap : List AV} {xs : List (List AV)} (hI : Itr P gf cap xs) (inv : β → List Slot) (R : Nat → β → Prop) (b0 : β) (hR : R 0 b0)
    (hround : ∀ (i : Nat) vs b l F1 F2, xs[i]? = some vs → R i b → AWP (some l) P nt assign (asgQ F1 F2 fun st => AWP (some l) P nt body (rndQ P nt Q T Sf (fun pre => ∃ b', R (i + 1) b' ∧ pre = inv b') F2) st) ⟨zipT T ps.toList vs, inv b ++ F1⟩)
    (hdone : ∀ b, R xs.length b → Q .normal ⟨T, inv b ++ Sf⟩)
    (hg : ev T g = some (.fn gf cap)) (hs : st1s cap = true) (hps : ps.toList.all (Nat.blt · nt) = true) (hlen : ∀ vs ∈ xs, vs.length = ps.size) (hS : (inv b0 ++ Sf).Sublist S) : AWP none P nt (.rangeFunc g ps assign body) Q ⟨T, S⟩ := by
  intro m0 a w hr
  obtain ⟨m, N, Z, rfl, h2, h3, h4⟩ := hr.sub hS
  obtain ⟨cs, e1, hcap⟩ := h4.ev hg
  injection e1 with e1
  refine wpIn_rangeFunc ?_
  intro fn _
  obtain ⟨rec, hrec⟩ : ∃ rec : LoopState → Option Code → Loop, rec = fun st pe => { state := st, pending := pe, fn, tmps := a.tmps, params := ps, assign, body, defers := m.w.heap.size } := ⟨_, rfl⟩
  -- the block for the deferred calls, the record, and a note of what the temporaries hold
  obtain ⟨G1, hle1⟩ := h3.newFrz (.deferred (some [])) _ rfl
  obtain ⟨G2, hle2⟩ := G1.newRaw (.loop (rec .ready none)) _ rfl
  have hle12 := hle1.trans hle2
  obtain ⟨m2, hm2⟩ : ∃ m2 : Mem, (⟨m.μ, fun y => m.U y ∨ y = N, (m.w.alloc (.deferred (some []))).alloc (.loop (rec .ready none)), fun b => m.F b ∨ b = m.w.heap.size⟩ : Mem) = m2 := ⟨_, rfl⟩
  have hw2 : (m.w.alloc (.deferred (some []))).alloc (.loop (rec .ready none)) = m2.w := by rw [← hm2]
  have G2' : Good m0 m2 (N + 1) (((N, .raw (m.w.heap.size + 1) (.loop (rec .ready none))), [m.w.heap.size + 1]) :: Z) [] := by
    rw [← hm2]
    have := G2
    simp only [World.size_alloc] at this
    exact this
  have hle : m.Le m2 := by rw [← hm2]; exact hle12
  have hV2 : ∀ d v, look T d = some v → ∃ u, a.tmps[d]? = some u ∧ VV m2 v u [] := (h4.mono hle).2.2
  obtain ⟨K, hK⟩ : ∃ K : AV → Value → Prop, K = fun v u => ∃ d, look T d = some v ∧ a.tmps[d]? = some u := ⟨_, rfl⟩
  obtain ⟨G3, hle3⟩ := G2'.note K (fun v u h => by
    rw [hK] at h
    obtain ⟨d, h5, h6⟩ := h
    obtain ⟨u', h7, h8⟩ := hV2 d v h5
    rw [h6] at h7
    injection h7 with h7
    rw [h7]; exact h8) _ rfl
  obtain ⟨m3, hm3⟩ : ∃ m3 : Mem, { m2 with U := fun y => m2.U y ∨ y = N + 1 } = m3 := ⟨_, rfl⟩
  rw [hm3] at G3 hle3
  have hw3 : m3.w = m2.w := by rw [← hm3]
  have h0F : m3.F m.w.heap.size := by rw [← hm3, ← hm2]; exact .inr rfl
  have h0D : m3.w.heap[m.w.heap.size]? = some (.deferred (some [])) := by
    rw [hw3, ← hw2]; exact (Below.heap_alloc _ _ _ (by simp)).trans (World.alloc_heap_new m.w _)
  have hle03 : m.Le m3 := hle.trans hle3
  obtain ⟨l, hl⟩ : ∃ l, m.w.heap.size + 1 = l := ⟨_, rfl⟩
  rw [hl] at G3
  clear G1 G2 G2' hle1 hle2 hle12
  -- the frame at the start
  obtain ⟨Zi, Zf, rfl, hzi, hzf⟩ := slots_split (A := inv b0) (B := Sf) h2
  have hsl : ∀ (A B C D : List (Slot × List Nat)), (A ++ (B ++ (C ++ D))).Perm (C ++ (B ++ (A ++ D))) := fun A B C D => by
    have p1 : (A ++ (B ++ (C ++ D))).Perm ((C ++ (B ++ A)) ++ D) := by
      rw [← List.append_assoc, ← List.append_assoc]
      refine List.Perm.append_right _ ?_
      refine List.perm_append_comm.trans (List.Perm.append_left _ List.perm_append_comm)
    simpa [List.append_assoc] using p1
  let J : Nat → List Slot → Prop := fun i Sl => ∃ b, R i b ∧ Sl = inv b ++ (N, .raw l (.loop (rec .ready none))) :: (N + 1, .tv K) :: Sf
  let Jx : List Slot → Prop := fun Sl => ∃ c pre, Sl = pre ++ (N, .raw l (.loop (rec .done (some c)))) :: (N + 1, .tv K) :: Sf ∧ AWP none P nt c Q ⟨T, pre ++ Sf⟩
  have hY : Yld P (.func (.yield l) #[] #[]) xs J Jx := by
    refine ⟨l, rfl, ?_⟩
    rintro i vs hi Sl ⟨b, hRb, rfl⟩ Si mr Nr Zr us hZr Gr hus
    have hRel0 : Rel nt mr ⟨zipT T ps.toList vs, inv b ++ (N, .raw l (.loop (rec .ready none))) :: ((N + 1, .tv K) :: Sf ++ Si)⟩ { tmps := (ps.toList.zip us).foldl (fun t q => t.setIfInBounds q.1 q.2) a.tmps, defers := [] } mr.w := by
      obtain ⟨Za, Zb, rfl, hza, hzb⟩ := slots_split (A := Si) hZr
      have hp : (Za ++ Zb).Perm (Zb ++ Za) := List.perm_append_comm
      refine ⟨mr, Nr, Zb ++ Za, rfl, by simp [hza, hzb], Gr.perm hp, TRel.zip ⟨h4.1, DRel.nil rfl, fun d v hd => ?_⟩ hus fun d hd => ?_⟩
      · have hO : ∃ bs, ((N + 1, AO.tv K), bs) ∈ Zb := by
          have : (N + 1, AO.tv K) ∈ Zb.map (·.1) := by rw [hzb]; simp
          obtain ⟨⟨q, bs⟩, hq, rfl⟩ := List.mem_map.1 this
          exact ⟨bs, hq⟩
        obtain ⟨bs, hO⟩ := hO
        have := Gr.obj _ (List.mem_append_right _ hO)
        obtain ⟨_, _, hk⟩ := this
        obtain ⟨u, h5, _⟩ := h4.2.2 d v hd
        exact ⟨u, h5, hk v u (by rw [hK]; exact ⟨d, hd, h5⟩)⟩
      · have := List.all_eq_true.1 hps d hd
        simpa [Nat.blt_eq] using this
    have hheap := (hRel0.setRaw (o' := .deferred none)).1
    have hus2 : us.length = ps.size := by
      rw [(VTs.get hus).1]
      exact hlen vs (List.mem_of_getElem? hi)
    refine ⟨fn, (ps.toList.zip us).foldl (fun t q => t.setIfInBounds q.1 q.2) a.tmps, assign, body, ?_, ?_⟩
    · have := run_yield (P := P) (args := us.toArray) hheap (by rw [hrec]; simpa using hus2)
      rw [this, hrec]
      simp only
      congr 2
      rw [← Array.foldl_toList]
      simp [Array.toList_zip]
    · have hA := hround i vs b l _ ((N, .raw l (.loop (rec .busy none))) :: ((N + 1, .tv K) :: Sf ++ Si)) hi hRb mr _ _ hRel0
      refine roundIn_of_wpIn (F := FW none) trivial (wpIn_mono (F := FW (some l)) hA fun e a' w' ⟨st', hr', hq⟩ => ?_)
      cases e with
      | normal =>
        obtain ⟨pre, hsub, hk⟩ := hq
        obtain ⟨hb1, hr2⟩ := (hr'.sub (T := st'.T) hsub).setRaw (o' := .loop (rec .busy none))
        refine ⟨_, run_beginRound hb1 (by rw [hrec]), ?_⟩
        have hr3 : Rel nt mr ⟨st'.T, pre ++ (N, .raw l (.loop (rec .busy none))) :: ((N + 1, .tv K) :: Sf ++ Si)⟩ a' (w'.putObj l (.loop { rec .ready none with state := .busy })) := by
          have : ({ rec .ready none with state := .busy } : Loop) = rec .busy none := by rw [hrec]
          rw [this]; exact hr2
        refine wpIn_mono (F := FW (some l)) (hk mr _ _ hr3) fun e a2 w2 ⟨st2, hr4, hq2⟩ => ?_
        have fin : ∀ (pre2 : List Slot) (jump : Option Code) (st : LoopState), st = (if jump.isNone then LoopState.ready else .done) → (pre2 ++ (N, .raw l (.loop (rec .busy none))) :: ((N + 1, .tv K) :: Sf ++ Si)).Sublist st2.S →
            ((jump.isNone = true → J (i + 1) (pre2 ++ (N, .raw l (.loop (rec st jump))) :: (N + 1, .tv K) :: Sf)) ∧ (jump.isNone = false → Jx (pre2 ++ (N, .raw l (.loop (rec st jump))) :: (N + 1, .tv K) :: Sf))) →
            ∃ v w', (Instr.endRound l jump).run P w2 = .ok v w' ∧ ∃ b Sl' m' N' Z', Ending.returned v = .returned (.bool b) ∧ m'.w = w' ∧ Z'.map (·.1) = Si ++ Sl' ∧ Good mr m' N' Z' [] ∧ (b = true → J (i + 1) Sl') ∧ (b = false → Jx Sl') := by
          intro pre2 jump st hst hsub2 hj
          obtain ⟨hb3, hr5⟩ := (hr4.sub (T := st2.T) hsub2).setRaw (o' := .loop (rec st jump))
          refine ⟨_, _, run_endRound jump hb3, jump.isNone, pre2 ++ (N, .raw l (.loop (rec st jump))) :: (N + 1, .tv K) :: Sf, ?_⟩
          have hrq : ({ rec .busy none with state := if jump.isNone then .ready else .done, pending := jump } : Loop) = rec st jump := by rw [hrec, hst]
          rw [hrq]
          obtain ⟨m', N', Z', h5, h6, h7, h8⟩ := hr5
          have h6' : Z'.map (·.1) = (pre2 ++ (N, .raw l (.loop (rec st jump))) :: (N + 1, .tv K) :: Sf) ++ Si := by simpa using h6
          obtain ⟨Zc, Zd, rfl, hzc, hzd⟩ := slots_split h6'
          exact ⟨m', N', Zd ++ Zc, rfl, h5, by simp only [List.map_append, hzc, hzd], h7.perm List.perm_append_comm, hj.1, hj.2⟩
        cases e with
        | normal =>
          obtain ⟨pre2, hsub2, b', hRb', rfl⟩ := hq2
          exact fin (inv b') none .ready rfl hsub2 ⟨fun _ => ⟨b', hRb', rfl⟩, fun h => by cases h⟩
        | ret =>
          obtain ⟨pre2, hsub2, hx⟩ := hq2
          exact fin pre2 (some .ret) .done rfl hsub2 ⟨fun h => (by cases h), fun _ => ⟨_, pre2, rfl, hx⟩⟩
        | exit id =>
          obtain ⟨pre2, hsub2, hx⟩ := hq2
          exact fin pre2 (some (.exit id)) .done rfl hsub2 ⟨fun h => (by cases h), fun _ => ⟨_, pre2, rfl, hx⟩⟩
        | goto t => exact hq2.elim
        | panic ch => exact hq2.elim
        | outgrown => exact hq2.elim
      | _ => exact hq.elim
  have hSp := hI.2 _ J Jx hY (inv b0 ++ (N, .raw l (.loop (rec .ready none))) :: (N + 1, .tv K) :: Sf) ⟨b0, hR, rfl⟩
  have hcall := hSp.run [] m3 (N + 1 + 1) (Zi ++ ((N, .raw l (.loop (rec .ready none))), [l]) :: ((N + 1, .tv K), []) :: Zf) (#[.func (.yield l) #[] #[]] ++ cs) (by simp [hzi, hzf])
    (by
      refine (G3.perm ?_).self
      have := hsl [((N + 1, .tv K), [])] [((N, .raw l (.loop (rec .ready none))), [l])] Zi Zf
      simpa using this) (by
      have h5 := vts_cap hs (VCs.mono hle03 cap (by simp) hcap)
      have := (VTs_cons (m := m3) (a := .prim (.func (.yield l) #[] #[])) (as := cap) (vs := .func (.yield l) #[] #[] :: cs.toList) (bs := []) rfl).2 ⟨_, _, [], [], rfl, rfl, ⟨⟨rfl, rfl⟩, rfl⟩, h5⟩
      simpa using this)
  refine ⟨l, [markD m.w.heap.size], m3.w, { target := .fn (.func gf) cs, args := #[.func (.yield l) #[] #[]] }, m3.w, gf, #[.func (.yield l) #[] #[]] ++ cs, m3.w, ?_, ?_, ?_, ?_, ?_, ?_⟩
  · rw [hw3, ← hw2, hrec, ← hl]
    exact run_enterLoop_outer fn a.tmps ps assign body
  · simp only [resolve, rangeCall, e1, Deferred.ofValue]
    simp [Sem.run_pure, Act.eval]
  · exact fun _ _ => trivial
  · have hf := hI.1
    unfold isFn at hf
    split at hf
    · rename_i fn' hfn
      simp only [Bool.and_eq_true, Bool.not_eq_true'] at hf
      have hb : fn'.body.isNone = false := by
        cases hfb : fn'.body with
        | none => rw [hfb] at hf; simp at hf
        | some c => rfl
      have h1 : ¬ fn'.name = "runtime.NumGoroutine" := by simpa using hf.1
      have h2 : ¬ fn'.body = none := by intro h; rw [h] at hb; cases hb
      simp [invoke, callFunc, program, Sem.run_bind, Sem.run, Result.andThen_ok, hfn, h1, h2]
    · cases hf
  · exact fun h => (by simp [FW, Fence.wide] at h)
  · refine calls_fw (hcall.mono ?_)
    rintro e w' ⟨v, r, S', m', N', Z', br, rfl, rfl, hm, G', hv, hq⟩
    rw [List.append_nil] at hm
    obtain ⟨G'', _⟩ := Good.freeze (ex := br) (ex' := []) (by simpa using (G3.perm (by have := hsl [((N + 1, .tv K), [])] [((N, .raw l (.loop (rec .ready none))), [l])] Zi Zf; simpa using this)).after G') _ rfl
    have hle' : m3.Le { m' with F := fun b => m'.F b ∨ b ∈ br } := G'.le.trans ⟨fun _ h => h, fun _ _ _ h => h, fun b hb => ⟨.inl hb, rfl⟩⟩
    have hT' : TRel m0 { m' with F := fun b => m'.F b ∨ b ∈ br } nt T { a with defers := [markD m.w.heap.size] ++ a.defers } := by
      have h5 := h4.mono (hle03.trans hle')
      refine ⟨h5.1, ?_, h5.2.2⟩
      obtain ⟨ds, h6, h7, h8⟩ := h4.2.1
      refine ⟨m.w.heap.size :: ds, by rw [h6]; rfl, List.nodup_cons.2 ⟨fun h => ?_, h7⟩, fun d hd => ?_⟩
      · have := h3.frz _ (h8 _ h).2.1
        omega
      · rcases List.mem_cons.1 hd with rfl | hd
        · exact ⟨h3.size, (hle'.F _ h0F).1, (hle'.F _ h0F).2.trans h0D⟩
        · obtain ⟨h9, h10, h11⟩ := h8 d hd
          exact ⟨h9, ((hle03.trans hle').F _ h10).1, ((hle03.trans hle').F _ h10).2.trans h11⟩
    have fin : ∀ (pre : List Slot) (rc : Loop), rc.state ≠ .busy → S' = pre ++ (N, .raw l (.loop rc)) :: (N + 1, .tv K) :: Sf → ∃ w4, (Instr.endLoop l).run P m'.w = .ok rc.pending w4 ∧ Rel nt m0 ⟨T, pre ++ Sf⟩ { a with defers := [markD m.w.heap.size] ++ a.defers } w4 := by
      rintro pre rc hrc rfl
      have hrel : Rel nt m0 ⟨T, pre ++ (N, .raw l (.loop rc)) :: ((N + 1, .tv K) :: Sf)⟩ { a with defers := [markD m.w.heap.size] ++ a.defers } m'.w := ⟨{ m' with F := fun b => m'.F b ∨ b ∈ br }, N', Z', rfl, hm, G'', hT'⟩
      obtain ⟨hb5, hr5⟩ := hrel.setRaw (o' := .loop { rc with state := .exhausted })
      refine ⟨_, run_endLoop hb5 hrc, hr5.sub ?_⟩
      exact List.Sublist.append_left (List.Sublist.cons _ (List.Sublist.cons _ (List.Sublist.refl _))) _
    rcases hq with ⟨b, hRb, hS'⟩ | ⟨c, pre, hS', hx⟩
    · obtain ⟨w4, h5, h6⟩ := fin (inv b) (rec .ready none) (by rw [hrec]; simp) hS'
      refine ⟨none, w4, by rw [h5, hrec], _, h6, hdone b hRb⟩
    · obtain ⟨w4, h5, h6⟩ := fin pre (rec .done (some c)) (by rw [hrec]; simp) hS'
      exact ⟨some c, w4, by rw [h5, hrec], hx m0 _ _ h6⟩
end
end Go.Proofs.Ytcfleoaldoebhaa

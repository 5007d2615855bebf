/-
  A function's contract out of its body; calls that turn objects, or whose result is taken apart. No conditions.
-/
import Derived.Test.YtcfleoaldoebhaaAbs9
import Derived.RangeFuncRecord
namespace Go.Proofs.Ytcfleoaldoebhaa
set_option linter.unusedVariables false
variable {ro : Option Nat}
set_option linter.unusedSimpArgs false
open Go.RowKit

def argT : Nat → List AV → List (Nat × AV)
  | _, [] => []
  | k, a :: l => (k, a) :: argT (k + 1) l
theorem look_argT : ∀ (l : List AV) (k d : Nat) (v : AV), look (argT k l) d = some v → k ≤ d ∧ l[d - k]? = some v := by
  intro l
  induction l with
  | nil => intro k d v h; cases h
  | cons a l ih =>
    intro k d v h
    rw [argT, look_cons] at h
    split at h
    · rename_i e; subst e; exact ⟨Nat.le_refl _, by simpa using h⟩
    · obtain ⟨h1, h2⟩ := ih _ _ _ h
      refine ⟨by omega, ?_⟩
      rw [show d - k = (d - (k + 1)) + 1 from by omega]
      simpa using h2
theorem VTs.get {m : Mem} : ∀ {l : List AV} {us : List Value} {bs : List Nat}, VTs m l us bs → us.length = l.length ∧ ∀ (i : Nat) (v : AV), bs = [] → l[i]? = some v → ∃ u, us[i]? = some u ∧ VV m v u []
  | [], us, bs, h => ⟨by rw [h.1]; rfl, fun i v _ hi => by simp at hi⟩
  | a :: l, us, bs, h => by
    have ha := VTs.ntup h
    obtain ⟨u, us', b1, b2, rfl, e, h1, h2⟩ := (VTs_cons ha).1 h
    obtain ⟨h3, h4⟩ := VTs.get h2
    refine ⟨by simp [h3], fun i v hb hi => ?_⟩
    rw [hb] at e
    obtain ⟨rfl, rfl⟩ : b1 = [] ∧ b2 = [] := by simpa using e.symm
    cases i with
    | zero => simp at hi; subst hi; exact ⟨u, rfl, h1⟩
    | succ i => exact h4 i v rfl (by simpa using hi)

def resSem (tmps : Array Value) : ResultVar → Sem Value
  | .tmp t => pure (tmps.getD t undef)
  | .cell a t => do loadVar t (← asAddr (tmps.getD a undef))
theorem results_eq (fn : Func) (tmps : Array Value) : results fn tmps = (fn.results.mapM (resSem tmps)).bind fun vs => Sem.pure (if h : vs.size = 1 then vs[0] else .tuple vs) := rfl
section
variable {P : Program} {m0 m : Mem} {N nt : Nat}
theorem ResV.run {st : St} {a : Act} {Z : Zs} {ex : List Nat} (G : Good m0 m N Z ex) (hm : Z.map (·.1) = st.S) (hT : TRel m0 m nt st.T a) {r : ResultVar} {v : AV} (h : ResV P st r v) :
    ∃ u, VV m v u [] ∧ (resSem a.tmps r).run P m.w = .ok u m.w := by
  cases h with
  | tmp h =>
    rename_i t
    obtain ⟨u, h1, h2⟩ := hT.2.2 t v h
    exact ⟨u, h2, by simp [resSem, Array.getD_eq_getD_getElem?, h1, Sem.run_pure]⟩
  | cell h hS hA hn hi hp =>
    rename_i t ty ty' X i k p sz n l e ag
    obtain ⟨u, h1, h2⟩ := hT.2.2 t _ h
    obtain ⟨bs, hz⟩ := hS.z hm
    have hO := G.obj _ (List.mem_of_getElem? hz)
    obtain ⟨L, arr, c, q, h3, h4, _, _, hb, hv, hcl, hc⟩ := hO.elem hi
    obtain ⟨_, _, A, e1, h5⟩ := h2
    injection e1 with e1
    rw [h5 L h3, h4] at e1
    obtain ⟨h6, u', h7, h8⟩ := partOf_spec hp hv.cells
    have := run_load (P := P) m.w ty hb (off := i * sz + k) (c := c.drop k) (fun j u hj => by
      rw [Nat.add_assoc]
      exact hc _ _ (by simpa [List.getElem?_drop] using hj)) hA hn (u := u') (by
      rcases h8 with ⟨h8, h9⟩ | ⟨h8, h9, h10⟩
      · exact .inl ⟨h8, by rw [List.length_drop]; omega, h9⟩
      · exact .inr ⟨h8, by simpa [List.getElem?_drop] using h10⟩)
    refine ⟨u', h7, ?_⟩
    simp only [Instr.loadAt, Instr.sureAddr, Sem.run_bind, Sem.run_pure, Result.andThen_ok] at this
    simp [resSem, Array.getD_eq_getD_getElem?, h1, e1, asAddr, Sem.run_bind, Sem.run_pure, Result.andThen_ok, this]
theorem ResVs.run {st : St} {a : Act} {Z : Zs} {ex : List Nat} (G : Good m0 m N Z ex) (hm : Z.map (·.1) = st.S) (hT : TRel m0 m nt st.T a) {rs : List ResultVar} {as : List AV} (h : ResVs P st rs as) :
    ∃ us, VTs m as us [] ∧ (rs.mapM (resSem a.tmps)).run P m.w = .ok us m.w := by
  induction h with
  | nil => exact ⟨[], ⟨rfl, rfl⟩, by simp [Sem.run_pure]⟩
  | cons h ht k ih =>
    obtain ⟨us, h1, h2⟩ := ih
    obtain ⟨u, h3, h4⟩ := h.run G hm hT
    refine ⟨u :: us, (VTs_cons ht).2 ⟨u, us, [], [], rfl, rfl, h3, h1⟩, ?_⟩
    rw [List.mapM_cons, Sem.run_bind, h4, Result.andThen_ok, Sem.run_bind, h2, Result.andThen_ok]
    rfl
theorem Ends.run {fn : Func} {res : List ResultVar} (hres : fn.results.toList = res) {Sf : List Slot} {Q : AV → List Slot → Prop} {st : St} (h : Ends P res Sf Q st) {a : Act} {Z : Zs} (G : Good m0 m N Z []) (hm : Z.map (·.1) = st.S) (hT : TRel m0 m nt st.T a) :
    ∃ v r S' Z' br, (results fn a.tmps).run P m.w = .ok v m.w ∧ Z'.map (·.1) = S' ++ Sf ∧ Good m0 m N Z' br ∧ VV m r v br ∧ Q r S' := by
  obtain ⟨as, bs, S1, S', h1, h2, h3, h4⟩ := h
  obtain ⟨us, h5, h6⟩ := h1.run G hm hT
  obtain ⟨Z1, br, h7, h8, h9⟩ := h2.sound G hm h5
  obtain ⟨Z2, h10, h11⟩ := sub_lift _ h3 h7
  have hrun : (results fn a.tmps).run P m.w = .ok (if h : us.length = 1 then us[0] else .tuple us.toArray) m.w := by
    have hb : ∀ {α β : Type} (s : Sem α) (f : α → Sem β), s.bind f = (s >>= f) := fun _ _ => rfl
    rw [results_eq, hb, Sem.run_bind, Array.mapM_eq_mapM_toList, hres]
    simp only [Sem.run_map, h6, Result.andThen_ok]
    show Result.ok _ _ = _
    simp
  refine ⟨_, packR bs, S', Z2, br, hrun, h11, (by simpa using h8 : Good m0 m N Z1 br).sub h10, ?_, h4⟩
  obtain ⟨h12, _⟩ := VTs.get h9
  match bs, h9, h12 with
  | [], h9, h12 =>
    obtain ⟨rfl, rfl⟩ := h9
    exact ⟨#[], rfl, rfl, rfl⟩
  | [b], h9, h12 =>
    obtain ⟨u, us', b1, b2, rfl, e, h13, h14, h15⟩ := (VTs_cons h9.ntup).1 h9
    subst h14 h15
    simp only [List.append_nil] at e
    subst e
    simpa [packR] using h13
  | b :: b' :: bs, h9, h12 =>
    rw [dif_neg (by rw [h12]; simp)]
    exact ⟨us.toArray, rfl, by simpa using h9⟩

/-! ### marks of ranges over functions -/
theorem Good.unmark {m0 m : Mem} {N : Nat} {Z : Zs} {ex : List Nat} {d : Nat} (G : Good m0 m N Z ex) (h0 : ∀ b, m0.F b → b < m0.w.heap.size) (hd0 : m0.w.heap.size ≤ d) (hF : m.F d) (hd : m.w.heap[d]? = some (.deferred (some []))) :
    m.LeC { m with w := m.w.putObj d (.deferred none), F := fun b => m.F b ∧ b ≠ d } ∧ Good m0 { m with w := m.w.putObj d (.deferred none), F := fun b => m.F b ∧ b ≠ d } N Z ex := by
  have hle : m.LeC { m with w := m.w.putObj d (.deferred none), F := fun b => m.F b ∧ b ≠ d } :=
    ⟨fun _ h => h, fun _ _ _ h => h, fun b hb ⟨arr, t, r, hc⟩ => by
      have hne : b ≠ d := by rintro rfl; rw [hd] at hc; cases hc
      exact ⟨⟨hb, hne⟩, World.putObj_heap_other hne⟩⟩
  have hown : ∀ b ∈ Z.own ++ ex, b ≠ d := fun b hb e => (G.blk b hb).2 (e ▸ hF)
  refine ⟨hle, fun z hz => ?_, G.own, fun b hb => ⟨by rw [show (World.heap _).size = _ from World.putObj_size]; exact (G.blk b hb).1, fun h => (G.blk b hb).2 h.1⟩, fun b hb => by rw [show (World.heap _).size = _ from World.putObj_size]; exact G.frz b hb.1, G.keys, G.keyN, G.usedN, ?_, G.os, G.tape, G.output, by rw [show (World.heap _).size = _ from World.putObj_size]; exact G.size⟩
  · refine ORel.monoC hle (fun e => ?_) (fun L h => h) (fun b hb => World.putObj_heap_other (hown b ?_)) (G.obj z hz)
    · have := G.obj z hz
      rw [e] at this
      exact this.2
    · exact List.mem_append_left _ (List.mem_flatMap.2 ⟨z, hz, hb⟩)
  · refine ⟨G.le.U, G.le.μ, fun b hb => ?_⟩
    have hne : b ≠ d := by have := h0 b hb; omega
    exact ⟨⟨(G.le.F b hb).1, hne⟩, (World.putObj_heap_other hne).trans (G.le.F b hb).2⟩
theorem leaves_marks {P : Program} {m0 m : Mem} {nt : Nat} {T : List (Nat × AV)} {a : Act} {fn : Func} {R : Ending → World → Prop} (h0 : ∀ b, m0.F b → b < m0.w.heap.size) (hT : TRel m0 m nt T a)
    (k : ∀ m', (∀ N Z, Good m0 m N Z [] → Good m0 m' N Z []) → TRel m0 m' nt T { a with defers := [] } → ∃ v, (results fn a.tmps).run P m'.w = .ok v m'.w ∧ R (.returned v) m'.w) : LeavesInM (FW none) 0 P fn a.tmps R a.defers .returning m.w := by
  obtain ⟨hn, ⟨ds, hds, hnd, hD⟩, hV⟩ := hT
  rw [hds]
  clear hds
  induction ds generalizing m with
  | nil =>
    simp only [List.map_nil, LeavesInM, LeavesIn]
    exact k m (fun _ _ h => h) ⟨hn, DRel.nil rfl, hV⟩
  | cons d ds ih =>
    obtain ⟨h1, h2, h3⟩ := hD d (by simp)
    rw [List.nodup_cons] at hnd
    have hle : m.LeC { m with w := m.w.putObj d (.deferred none), F := fun b => m.F b ∧ b ≠ d } :=
      ⟨fun _ h => h, fun _ _ _ h => h, fun b hb ⟨arr, t, r, hc⟩ => by
        have hne : b ≠ d := by rintro rfl; rw [h3] at hc; cases hc
        exact ⟨⟨hb, hne⟩, World.putObj_heap_other hne⟩⟩
    refine ⟨by simp, .inl ⟨d, m.w.putObj d (.deferred none), rfl, run_takeDeferred h3, ?_⟩⟩
    refine ih (m := { m with w := m.w.putObj d (.deferred none), F := fun b => m.F b ∧ b ≠ d }) (fun m' hG hT' => k m' (fun N Z G => hG N Z (G.unmark h0 h1 h2 h3).2) hT') (fun e v he => ?_) hnd.2 fun x hx => ?_
    · obtain ⟨u, hu1, hu2⟩ := hV e v he
      exact ⟨u, hu1, VV.monoC hle (by simp) hu2⟩
    · have hne : x ≠ d := by rintro rfl; exact hnd.1 hx
      obtain ⟨h4, h5, h6⟩ := hD x (by simp [hx])
      exact ⟨h4, ⟨h5, hne⟩, (World.putObj_heap_other hne).trans h6⟩

theorem Spec.of {f : FuncId} {fn : Func} {c : Code} {args : List AV} {S : List Slot} {Q : AV → List Slot → Prop} {res : List ResultVar} {nt : Nat} (hf : P.funcs[f]? = some fn) (hb : fn.body = some c) (hfn : isFn P f = true) (hnt : fn.ntmps = nt) (hres : fn.results.toList = res) (hn : Nat.ble args.length nt = true)
    (h : ∀ Sf, AWP none P nt c (retQ P res Sf Q) ⟨argT 0 args, S ++ Sf⟩) : Spec P f args S Q := by
  subst hnt
  have hn := Nat.le_of_ble_eq_true hn
  refine ⟨hfn, fun Sf m N Z vals hm G hv => calls_of_fw (ro := none) (n := 0) (callsIn_of_wp_marks (F := FW none) hf hb trivial ?_ rfl)⟩
  obtain ⟨hl, hget⟩ := VTs.get hv
  have hl' : vals.size = args.length := by simpa using hl
  have hr : Rel fn.ntmps m ⟨argT 0 args, S ++ Sf⟩ { tmps := vals ++ Array.replicate (fn.ntmps - vals.size) undef, defers := [] } m.w := by
    refine ⟨m, N, Z, rfl, hm, G, by simp; omega, DRel.nil rfl, fun d v hd => ?_⟩
    obtain ⟨_, h2⟩ := look_argT _ _ _ _ hd
    simp only [Nat.sub_zero] at h2
    obtain ⟨u, h3, h4⟩ := hget d v rfl h2
    have hdl : d < vals.size := by have := (List.getElem?_eq_some_iff.1 h3).1; simpa using this
    exact ⟨u, by rw [Array.getElem?_append_left hdl]; simpa using h3, h4⟩
  refine wpIn_mono (h Sf m _ _ hr) fun e a w ⟨st', hr', hq⟩ => ?_
  obtain ⟨m', N', Z', rfl, hm', G', hT⟩ := hr'
  have fin : Ends P res Sf Q st' → LeavesInM (FW none) 0 P fn a.tmps (fun e w' => ∃ v' r S' m'' N'' Z'' br, e = .returned v' ∧ m''.w = w' ∧ Z''.map (·.1) = S' ++ Sf ∧ Good m m'' N'' Z'' br ∧ VV m'' r v' br ∧ Q r S') a.defers .returning m'.w := fun hE =>
    leaves_marks G.frz hT fun m'' G'' hT' => by
      obtain ⟨v, r, S', Z'', br, h1, h2, h3, h4, h5⟩ := hE.run hres (G'' _ _ G') hm' hT'
      exact ⟨v, h1, v, r, S', m'', N', Z'', br, rfl, rfl, h2, h3, h4, h5⟩
  cases e with
  | normal => exact fin hq
  | ret => exact fin hq
  | _ => exact hq.elim
end
end Go.Proofs.Ytcfleoaldoebhaa

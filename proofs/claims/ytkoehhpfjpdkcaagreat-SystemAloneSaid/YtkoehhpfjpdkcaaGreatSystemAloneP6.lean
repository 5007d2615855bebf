/-
  Part 6 of the texts under the law SystemAlone: the layer of abstract values, walks and plain laws. Conditions: those that each theorem names.
-/
import Derived.Below
import Derived.Test.YtkoehhpfjpdkcaaGreatSystemAloneP5
namespace Go.Proofs.YtkoehhpfjpdkcaaGreat
set_option linter.unusedVariables false
end Go.Proofs.YtkoehhpfjpdkcaaGreat

namespace Go.Proofs.YtkoehhpfjpdkcaaGreat
set_option linter.unusedVariables false
/-- A world with items that are its own. -/
def wdH (w : Wd) : AV := .agg [kindsA false false w.kinds, intsA false w.gens, itemsA true false w.items]
instance {w : Wd} : Frz (wdH w) (wdA false w) := ⟨by unfold wdH wdA; exact Frz.h⟩
end Go.Proofs.YtkoehhpfjpdkcaaGreat

namespace Go.Proofs.YtkoehhpfjpdkcaaGreat
set_option linter.unusedVariables false
section
variable {ro : Option Nat} {P : Program} {nt : Nat} {ops : Array Oper} {Q : Exit → St → Prop} {rest : List Oper} {T : List (Nat × AV)} {S : List Slot} {f : FuncId} {x0 x1 : Operand} {v0 v1 : AV} {dst : Option Tmp} {ats : Array TypeId} {ty : TypeId} {pos : String} {after : Array Edge} {p1 p2 p3 p4 : Nat} {z1 z2 z3 z4 : Slot} {y1 y2 y3 y4 : Nat × Nat → Slot}
/-- A call that hands four objects back, as one of many ways tells. -/
theorem AOps.eDo (h : Spec P f [v0, v1] [z1, z2, z3, z4] fun r' S' => ∃ b : Nat × Nat, r' = .tup [] ∧ S' = [y1 b, y2 b, y3 b, y4 b]) (k : ∀ b : Nat × Nat, AOps ro P nt ops Q rest ⟨putD T dst (.tup []), setAll S [(p1, y1 b), (p2, y2 b), (p3, y3 b), (p4, y4 b)]⟩)
    (a1 : At S p1 z1 := by exact At.f) (a2 : At S p2 z2 := by exact At.f) (a3 : At S p3 z3 := by exact At.f) (a4 : At S p4 z4 := by exact At.f) (hnd : nodupB [p1, p2, p3, p4] = true := by rfl) (h0 : Rd none T x0 v0 := by rfl) (h1 : Rd none T x1 v1 := by rfl) (ht : noTup [(x0, v0), (x1, v1)] = true := by rfl) (hd : dstOk dst nt = true := by rfl) :
    AOps ro P nt ops Q (⟨dst, .call ⟨.value (.func f), #[x0, x1], ats⟩, ty, pos, after, none⟩ :: rest) ⟨T, S⟩ :=
  AOps.callE (xs := [(x0, v0), (x1, v1)]) (C := fun _ => True) (rr := fun _ => .tup []) (vv := fun _ => .tup []) (So := fun b => [y1 b, y2 b, y3 b, y4 b]) (nw := fun _ => []) (gs := []) (rS := [(p1, z1), (p2, z2), (p3, z3), (p4, z4)]) (wE := fun b => [(p1, y1 b), (p2, y2 b), (p3, y3 b), (p4, y4 b)])
    (h.mono fun r' S' ⟨b, e1, e2⟩ => ⟨b, trivial, e1, e2⟩) (fun _ => .fz) (fun _ => rfl) (fun b => .cons a1 (.cons a2 (.cons a3 (.cons a4 .nil)))) (nodupB_spec hnd) rfl (.cons a1 (.cons a2 (.cons a3 (.cons a4 .nil)))) (.cons h0 (.cons h1 .nil)) ht hd (fun b _ => k b)
end
theorem allTo_at {l : List Item} {wth wout : List Int} {i : Nat} {q : Nat × Item} (h : q ∈ allTo l wth wout i) : l[q.1]? = some q.2 ∧ matchOf q.2 wth wout = true := by
  induction i with
  | zero => simp [allTo] at h
  | succ i ih =>
    rw [allTo, List.mem_append] at h
    rcases h with h | h
    · exact ih h
    · split at h
      · rename_i it hit
        split at h
        · rename_i hm
          rw [List.mem_singleton] at h
          subst h
          exact ⟨hit, hm⟩
        · cases h
      · cases h
theorem rowsM_ent (ks : List Kind) (s : Sys) (index seed tick : Int) : ∀ (qs : List (Nat × Item)) (b : List Item × List Cmd × List Evt), (∀ q ∈ qs, (b.1[q.1]?).map Item.ent = some q.2.ent) → (rowsM ks s index seed tick qs b).1.map Item.ent = b.1.map Item.ent
  | [], b, _ => rfl
  | q :: qs, b, h => by
    have h0 := h q (by simp)
    have e1 : ∀ x : Item, x.ent = q.2.ent → (b.1.set q.1 x).map Item.ent = b.1.map Item.ent := by
      intro x hx
      rw [List.map_set, hx]
      refine List.ext_getElem? fun j => ?_
      by_cases hj : q.1 = j
      · subst hj
        rw [← List.getElem?_map] at h0
        rw [List.getElem?_set_self (List.getElem?_eq_some_iff.1 h0).1, h0]
      · rw [List.getElem?_set_ne hj]
    have := rowsM_ent ks s index seed tick qs (b.1.set q.1 ⟨q.2.ent, (entM ks s index seed tick q.2 b.2.1 b.2.2).comps⟩, (entM ks s index seed tick q.2 b.2.1 b.2.2).cmds, (entM ks s index seed tick q.2 b.2.1 b.2.2).evs) (fun q' h' => by
      have h1 := h q' (by simp [h'])
      dsimp only
      rw [← List.getElem?_map] at h1 ⊢
      rw [e1 ⟨q.2.ent, (entM ks s index seed tick q.2 b.2.1 b.2.2).comps⟩ rfl]
      exact h1)
    exact this.trans (e1 ⟨q.2.ent, (entM ks s index seed tick q.2 b.2.1 b.2.2).comps⟩ rfl)
/-- What changes from entity to entity. -/
structure RunB where
  K : Nat
  E : Nat
  l : List Comp
  e : Ent
  r : UInt64 × UInt64
  z : List Item × List Cmd × List Evt
def runInv (w : Wd) (s : Sys) (index : Int) (X PX W2 I R : Nat) (b : RunB) : List Slot :=
  [(b.E, .row 54 4 (b.z.2.2.map evtA)), (b.K, .row 58 5 (b.z.2.1.map cmdA)), (PX, .row 67 1 [.ptr X 0 0]), (X, .row 72 16 [runA w.kinds s b.e (compsA false false b.l) b.r (.sl b.K 0 b.z.2.1.length) (.sl b.E 0 b.z.2.2.length) index]),
    (W2, .row 27 3 [.agg [kindsA false false w.kinds, intsA false w.gens, .sl I 0 (w.items.map itemB).length]]), (I, .row 48 3 (b.z.1.map (itemA false))), (R, .row 27 3 [.agg [.prim (.slice none 0 0), .prim (.slice none 0 0), .prim (.slice none 0 0)]])]
set_option maxRecDepth 8000 in
set_option maxHeartbeats 4000000 in
theorem run_ps (w : Wd) (s : Sys) (index seed tick : Int) (hw : WdL w) (hwe : wdErr w = 0) (h12 : w.kinds.length ≤ 12) (hs : SysG w.kinds s) (hk : checkErr w.kinds = 0) (hheld : ∀ it ∈ w.items, heldOf w.kinds it.comps = true) (hN : (allOf w.items s.wth s.wout).length * s.ops.length ≤ 1099511627775) :
    PS Tryz.prog 7 [wdA false w, sysA false s, iA index, iA seed, iA tick] (.tup [wdH ⟨w.kinds, w.gens, (runM w s index seed tick).1⟩, .lst false 58 5 ((runM w s index seed tick).2.1.map cmdA), .lst false 54 4 ((runM w s index seed tick).2.2.map evtA), iA 0]) := by
  have hck := check_ps' w hw.gens hw.items.1 (fun it h => (hw.items.2 it h).1)
  rw [hwe] at hck
  have hcp := copy_ps w hw
  have hsc := sysCheck_ps w.kinds s hk h12 hs
  have hal := all_ps w s.wth s.wout hw.items.1 hw.items.2 (by have := (hs.o s.wth (by simp)).2.2; omega) (by have := (hs.o s.wout (by simp)).2.2; omega)
  refine Spec.of (nt := 97) (res := [.cell 10 27, .tmp 11, .tmp 12, .tmp 13]) Tryz.func7 rfl (by kernel_rfl) rfl rfl rfl fun Sf => ?_
  (repeat refine WF ?_); refine AWP.region ?_; (repeat (first | (refine AOps.gN ?_; first | (refine AOps.g_box ?_; refine AOps.goB ?_)) | refine WO ?_ | refine All.i fun R => ?_ | refine AllY.i fun Y => ?_)); refine AOps.nil ?_; (repeat refine WN ?_)
  (repeat first | refine AOps.nil ?_ | refine WF ?_)
  (repeat refine WF ?_); refine AWP.region ?_; (repeat (first | (refine AOps.gN ?_; first | (refine AOps.g_callf ?_; first | refine AOps.c1 (h := (hck ..)) (k := ?_))) | refine WO ?_ | refine All.i fun X => ?_ | refine AllY.i fun Y => ?_)); refine AOps.nil ?_; (repeat refine WN ?_)
  (repeat (first | refine WK ?_ | refine All.i fun X => ?_ | refine AllY.i fun Y => ?_))
  refine AWP.cond_f rfl rfl ?_
  (repeat first | refine AOps.nil ?_ | refine WF ?_)
  (repeat refine WF ?_); refine AWP.region ?_; (repeat (first | (refine AOps.gN ?_; first | (refine AOps.g_callf ?_; first | refine AOps.c2 (h := (hsc ..)) (k := ?_))) | refine WO ?_ | refine All.i fun X => ?_ | refine AllY.i fun Y => ?_)); refine AOps.nil ?_; (repeat refine WN ?_)
  (repeat (first | refine WK ?_ | refine All.i fun X => ?_ | refine AllY.i fun Y => ?_))
  refine AWP.cond_f rfl rfl ?_
  (repeat first | refine AOps.nil ?_ | refine WF ?_)
  refine AWP.rs fun I => ?_
  (repeat refine WF ?_); refine AWP.region ?_; (repeat (first | (refine AOps.gN ?_; first | (refine AOps.g_callf ?_; first | refine AOps.z1 (h := hcp) (hT := .v (.agg (.cons .fz (.cons .fz (.cons (.lst (Y := I) rfl) .nil))))) (k := ?_))) | refine WO ?_ | refine All.i fun W2 => ?_ | refine AllY.i fun Y => ?_))
  (repeat first | refine AOps.nil ?_ | refine WF ?_)
  (repeat refine WF ?_); refine AWP.region ?_; (repeat (first | refine WO ?_ | refine All.i fun PX => ?_ | refine AllY.i fun Y => ?_)); refine AOps.nil ?_; (repeat refine WN ?_)
  rename_i X
  (repeat first | refine AOps.nil ?_ | refine WF ?_)
  refine AWP.adoptIn (Y := X) 58 5 (by exact At.f) (fun F => .cons (.agg (.cons .same (.cons .same (.cons .same (.cons .same (.cons .same (.cons .same (.cons .same (.cons .same (.cons .same (.cons .same (.cons .same (.cons .same (.cons .same (.cons (.base .nil) (.cons .same (.cons .same .nil))))))))))))))))) .nil) fun K => ?_
  refine AWP.adoptIn (Y := X) 54 4 (by exact At.f) (fun F => .cons (.agg (.cons .same (.cons .same (.cons .same (.cons .same (.cons .same (.cons .same (.cons .same (.cons .same (.cons .same (.cons .same (.cons .same (.cons .same (.cons .same (.cons .same (.cons (.base .nil) (.cons .same .nil))))))))))))))))) .nil) fun E => ?_
  refine AWP.nilIn 104 2 (Y := X) (.cons (.agg (.cons .same (.cons .same (.cons .same (.cons .same (.cons .same (.cons .same (.cons .same (.cons .same (.cons .same (.cons .same (.cons (.base .nil) (.cons .same (.cons .same (.cons .same (.cons .same (.cons .same .nil))))))))))))))))) .nil) ?_
  refine AWP.frzRow I (w.items.map (itemA false)) (items_frzB w.items) ?_ (by exact At.f)
  (repeat refine WF ?_); refine AWP.region ?_; (repeat (first | (refine AOps.gN ?_; first | (refine AOps.g_callf ?_; first | refine AOps.c3 (h := (hal ..)) (k := ?_))) | refine WO ?_ | refine All.i fun X => ?_ | refine AllY.i fun Y => ?_)); refine AOps.nil ?_; (repeat refine WN ?_)
  (repeat first | refine AOps.nil ?_ | refine WF ?_)
  have hI := all1_itrO (allOf w.items s.wth s.wout) (Nat.le_trans (allOf_len _ _ _) hw.items.1) (fun q hq => hw.items.2 _ (allTo_mem hq))
  refine AWP.rangeO (Sf := Sf) hI (runInv w s index X PX W2 I R) (fun i b => b.z = rowsM w.kinds s index seed tick ((allOf w.items s.wth s.wout).take i) (w.items, [], [])) ⟨K, E, [], ⟨0, 0⟩, (0, 0), (w.items, [], [])⟩ rfl ?_ ?_ rfl rfl rfl ?_ ?_
  · rintro i vs C ⟨K, E, l0, e0, r0, z⟩ l F1 F2 hi hz
    have hil : i < (allOf w.items s.wth s.wout).length := by simpa using (List.getElem?_eq_some_iff.1 hi).1
    rw [List.getElem?_map, List.getElem?_eq_getElem hil] at hi
    obtain rfl : _ = vs := Option.some.inj hi
    have hqm := List.getElem_mem hil
    have hst := rowsM_take (ks := w.kinds) (s := s) (index := index) (seed := seed) (tick := tick) hil (w.items, [], [])
    have hro := rowsM_ok (index := index) (seed := seed) (tick := tick) hk hs.ops ((allOf w.items s.wth s.wout).take i) (w.items, [], []) (fun q h => by
      obtain ⟨g1, g2⟩ := allTo_at (List.mem_of_mem_take h)
      exact ⟨hheld _ (List.mem_of_getElem? g1), match_has hs g2⟩)
    dsimp only at hz
    rw [← hz] at hst hro
    obtain ⟨q, hq⟩ : ∃ q, (allOf w.items s.wth s.wout)[i] = q := ⟨_, rfl⟩
    rw [hq] at hqm hst ⊢
    obtain ⟨hqa, hqb⟩ := allTo_at hqm
    obtain ⟨qi, ⟨⟨en, eg⟩, cs⟩⟩ := q
    obtain ⟨zi, zc, ze⟩ := z
    dsimp only [List.length_nil] at hqa hqb hro
    unfold runInv itY
    dsimp only
    have hcl : (cs.map (compA true)).length = cs.length := List.length_map _
    rw [hcl]
    have hrs := rndOf_ps [seed, tick, index, en] (by simp)
    have hen := rowsM_ent w.kinds s index seed tick ((allOf w.items s.wth s.wout).take i) (w.items, [], []) (fun q h => by rw [(allTo_at (List.mem_of_mem_take h)).1]; rfl)
    rw [← hz] at hen
    dsimp only at hen
    have hzat : (zi[qi]?).map Item.ent = some ⟨en, eg⟩ := by rw [← List.getElem?_map, hen, List.getElem?_map, hqa]; rfl
    obtain ⟨it, hit, hie⟩ := Option.map_eq_some_iff.1 hzat
    obtain ⟨ie, ics⟩ := it
    dsimp only at hie
    subst hie
    have hiat : (zi.map (itemA false))[qi]? = some (itemA false ⟨⟨en, eg⟩, ics⟩) := by rw [List.getElem?_map, hit]; rfl
    have hqil : qi < (zi.map (itemA false)).length := (List.getElem?_eq_some_iff.1 hiat).1
    have heo := fun j => entM_ok (index := index) (seed := seed) (tick := tick) (x := ⟨⟨en, eg⟩, cs⟩) hk (hheld _ (List.mem_of_getElem? hqa)) (match_has hs hqb) hs.ops zc ze j
    have hee : entM w.kinds s index seed tick ⟨⟨en, eg⟩, cs⟩ zc ze = opsM w.kinds s index ⟨en, eg⟩ s.ops ⟨cs, rndOf [seed, tick, index, en], zc, ze⟩ := rfl
    have hsr : rowsM w.kinds s index seed tick [(qi, ⟨⟨en, eg⟩, cs⟩)] (zi, zc, ze) = (zi.set qi ⟨⟨en, eg⟩, (entM w.kinds s index seed tick ⟨⟨en, eg⟩, cs⟩ zc ze).comps⟩, (entM w.kinds s index seed tick ⟨⟨en, eg⟩, cs⟩ zc ze).cmds, (entM w.kinds s index seed tick ⟨⟨en, eg⟩, cs⟩ zc ze).evs) := rfl
    rw [hsr, hee] at hst
    dsimp only at heo
    obtain ⟨rr, hrr⟩ : ∃ rr, rndOf [seed, tick, index, en] = rr := ⟨_, rfl⟩
    rw [hrr] at hrs heo hst
    have him : i * s.ops.length + s.ops.length ≤ 1099511627775 := by
      have h1 : (i + 1) * s.ops.length ≤ (allOf w.items s.wth s.wout).length * s.ops.length := Nat.mul_le_mul_right _ hil
      rw [Nat.succ_mul] at h1
      omega
    have htk : ((allOf w.items s.wth s.wout).take i).length = i := by rw [List.length_take]; omega
    rw [htk] at hro
    clear hsr hee hz hen hrr
    (repeat (first | refine WK ?_ | refine All.i fun P => ?_ | refine AllY.i fun Y => ?_))
    refine ⟨[(P, _), (C, _), (E, _), (K, _), (PX, _), (X, _), (W2, _), (I, _), (R, _)], .refl _, ?_⟩
    (repeat first | refine AOps.nil ?_ | refine WF ?_)
    (repeat refine WF ?_); refine AWP.region_run (by kernel_rfl) (by kernel_rfl) ?_; (repeat (first | (refine RGo.gN ?_; first | refine RGo.c1 (h := hrs) (k := ?_)) | (refine RGo.gQ ?_; first | refine RGo.c1 (h := hrs) (k := ?_)) | refine RK ?_ | refine RGo.nil (by kernel_rfl) ?_))
    (repeat (first | refine WK ?_ | refine All.i fun X => ?_ | refine AllY.i fun Y => ?_))
    have hom : (s.ops.map opA).length = s.ops.length := List.length_map _
    obtain ⟨S0, hS0⟩ : ∃ st : Rn, (⟨cs, rr, zc, ze⟩ : Rn) = st := ⟨_, rfl⟩
    rw [hS0] at heo hst
    have hop0 : opsM w.kinds s index ⟨en, eg⟩ (s.ops.take 0) S0 = ⟨cs, rr, zc, ze⟩ := hS0.symm
    obtain ⟨stj, hstj⟩ : ∃ g : Nat → Rn, (fun j => opsM w.kinds s index ⟨en, eg⟩ (s.ops.take j) S0) = g := ⟨_, rfl⟩
    have hg0 : stj 0 = ⟨cs, rr, zc, ze⟩ := by rw [← hstj]; exact hop0
    have hgS : ∀ j (h : j < s.ops.length), stj (j + 1) = doM w.kinds s index ⟨en, eg⟩ s.ops[j] (stj j) := by intro j h; rw [← hstj]; exact opsM_take h S0
    have hge : ∀ j, RnG w.kinds s (stj j) ∧ (stj j).cmds.length ≤ zc.length + s.ops.length ∧ (stj j).evs.length ≤ ze.length + s.ops.length := by intro j; rw [← hstj]; exact heo j
    have hgl : opsM w.kinds s index ⟨en, eg⟩ s.ops S0 = stj s.ops.length := by rw [← hstj]; dsimp only; rw [List.take_length]
    rw [hgl] at hst
    clear heo hop0 hgl hstj hS0
    refine AWP.lp2 (fun (j : Nat) (b : Nat × Nat) => ⟨[(16, .ptr W2 0 0), (17, .ptr PX 0 0), (18, iA qi), (68, opsA false s.ops), (69, iA (s.ops.map opA).length), (70, iA j)], [(P, .row 48 3 [.agg [iA en, iA eg, .sl C 0 cs.length]]), (C, .row 104 2 ((stj j).comps.map (compA true))), (b.2, .row 54 4 ((stj j).evs.map evtA)), (b.1, .row 58 5 ((stj j).cmds.map cmdA)), (PX, .row 67 1 [.ptr X 0 0]), (X, runO w.kinds s ⟨en, eg⟩ C (stj j).comps.length (stj j).r b.1 (stj j).cmds.length b.2 (stj j).evs.length index),
      (W2, .row 27 3 [.agg [kindsA false false w.kinds, intsA false w.gens, .sl I 0 (w.items.map itemB).length]]), (I, .row 48 3 (zi.map (itemA false))), (R, .row 27 3 [.agg [.prim (.slice none 0 0), .prim (.slice none 0 0), .prim (.slice none 0 0)]])] ++ F2⟩) (fun j _ => j ≤ s.ops.length) (fun j _ => s.ops.length - j) 0 (K, E) (Nat.zero_le _) ?_ (by dsimp only; rw [hg0]; exact ⟨by exact Lk.f, by exact Sub.f⟩)
    rintro j ⟨K', E'⟩ hj
    dsimp only
    obtain ⟨hgR, hgC, hgE⟩ := hge j
    (repeat (first | refine WK ?_ | refine All.i fun X => ?_ | refine AllY.i fun Y => ?_))
    refine AWP.cond rfl (fun hc => ?_) (fun hc => ?_)
    · have hjl : j < s.ops.length := by rw [decide_eq_true_eq, hom] at hc; omega
      have hatj : (s.ops.map opA)[j]? = some (opA s.ops[j]) := by rw [List.getElem?_map, List.getElem?_eq_getElem hjl]; rfl
      have hjm : j < (s.ops.map opA).length := by omega
      have hdo := do_sp w.kinds s ⟨en, eg⟩ index X C K' E' (stj j) s.ops[j] hk h12 hs.sp ⟨hgR.held, hgR.has, hgR.odd, by omega, by omega⟩ (hs.ops _ (List.getElem_mem hjl))
      rw [← hgS j hjl] at hdo
      unfold runS at hdo
      have hol : s.ops.length ≤ 20 := hs.len
      (repeat (first | (refine AOps.gN ?_; first | refine AOps.eDo (h := hdo) fun b => ?_) | refine WK ?_ | refine All.i fun O => ?_ | refine AllY.i fun Y => ?_))
      refine lp_next2 (j + 1) b hjl
    · have hjl : j = s.ops.length := by rw [decide_eq_false_iff_not, hom] at hc; omega
      subst hjl
      have hqw : qi < (w.items.map itemB).length := by rw [List.length_map]; exact (List.getElem?_eq_some_iff.1 hqa).1
      (repeat (first | refine WK ?_ | refine All.i fun X => ?_ | refine AllY.i fun Y => ?_))
      have hfz : AV.frzs ((((stj s.ops.length).comps.map (compA true)).drop 0).take (stj s.ops.length).comps.length) = (stj s.ops.length).comps.map (compA false) := by
        rw [List.drop_zero, List.take_of_length_le (by simp)]
        exact (inferInstance : Frzs ((stj s.ops.length).comps.map (compA true)) ((stj s.ops.length).comps.map (compA false))).h
      refine AWP.iceIn (X := C) (Y := X) (by exact At.f) (by exact At.f) rfl (.cons (.agg (.cons .same (.cons .same (.cons .same (.cons .same (.cons .same (.cons .same (.cons .same (.cons .same (.cons .same (.cons .same (.cons (.base (.sl (by simp))) (.cons .same (.cons .same (.cons .same (.cons .same (.cons .same .nil))))))))))))))))) .nil) ?_
      rw [hfz]
      (repeat refine WF ?_); refine AWP.region_run (by kernel_rfl) (by kernel_rfl) ?_; (repeat (first | refine RK ?_ | refine RGo.nil (by kernel_rfl) ?_))
      (repeat first | refine AOps.nil ?_ | refine WF ?_)
      refine ⟨[(E', _), (K', _), (PX, _), (X, _), (W2, _), (I, _), (R, _)], (by exact Sub.f), ⟨K', E', (stj s.ops.length).comps, ⟨en, eg⟩, (stj s.ops.length).r, _⟩, hst.symm, ?_⟩
      rw [List.map_set]
      rfl
  · rintro ⟨K, E, l0, e0, r0, z⟩ hz
    rw [List.length_map, List.take_length] at hz
    dsimp only at hz
    have hro := rowsM_ok (index := index) (seed := seed) (tick := tick) hk hs.ops (allOf w.items s.wth s.wout) (w.items, [], []) (fun q h => by
      obtain ⟨g1, g2⟩ := allTo_at h
      exact ⟨hheld _ (List.mem_of_getElem? g1), match_has hs g2⟩)
    rw [← hz] at hro
    rw [show runM w s index seed tick = z from hz.symm]
    clear hz
    obtain ⟨zi, zc, ze⟩ := z
    dsimp only at hro ⊢
    have hlI : (w.items.map itemB).length = (zi.map (itemA false)).length := by rw [List.length_map, List.length_map, hro.2.2]
    have hfk : AV.frzs (((zc.map cmdA).drop 0).take zc.length) = zc.map cmdA := by
      rw [List.drop_zero, List.take_of_length_le (by simp)]
      exact frzs_same cmdA (fun _ => Frz.h) zc
    have hfe : AV.frzs (((ze.map evtA).drop 0).take ze.length) = ze.map evtA := by
      rw [List.drop_zero, List.take_of_length_le (by simp)]
      exact frzs_same evtA (fun _ => Frz.h) ze
    unfold runInv
    dsimp only
    (repeat first | refine AOps.nil ?_ | refine WF ?_)
    refine AWP.iceIn (X := K) (Y := X) (by exact At.f) (by exact At.f) rfl (.cons (.agg (.cons .same (.cons .same (.cons .same (.cons .same (.cons .same (.cons .same (.cons .same (.cons .same (.cons .same (.cons .same (.cons .same (.cons .same (.cons .same (.cons (.base (.sl (by simp))) (.cons .same (.cons .same .nil))))))))))))))))) .nil) ?_
    refine AWP.iceIn (X := E) (Y := X) (by exact At.f) (by exact At.f) rfl (.cons (.agg (.cons .same (.cons .same (.cons .same (.cons .same (.cons .same (.cons .same (.cons .same (.cons .same (.cons .same (.cons .same (.cons .same (.cons .same (.cons .same (.cons .same (.cons (.base (.sl (by simp))) (.cons .same .nil))))))))))))))))) .nil) ?_
    rw [hfk, hfe]
    (repeat refine WF ?_); refine AWP.region_run (by kernel_rfl) (by kernel_rfl) ?_; (repeat (first | refine RK ?_ | refine RGo.nil (by kernel_rfl) ?_))
    (repeat (first | refine WK ?_ | refine All.i fun X => ?_ | refine AllY.i fun Y => ?_))
    (refine AWP.ret ?_; (repeat (first | refine inB_r ?_ | refine andThen_r ?_)); refine retQ_r ?_)
    exact Ends.cv [.agg [kindsA false false w.kinds, intsA false w.gens, .sl I 0 (w.items.map itemB).length], .lst false 58 5 (zc.map cmdA), .lst false 54 4 (ze.map evtA), iA 0] [wdH ⟨w.kinds, w.gens, zi⟩, .lst false 58 5 (zc.map cmdA), .lst false 54 4 (ze.map evtA), iA 0]
      (.cons (.agg (.cons .same (.cons .same (.cons (.sl (p := 5) (.next (.next (.next (.next (.next .here))))) hlI) .nil)))) (.cons (.cell .same) (.cons (.cell .same) (.cons (.cell .same) .nil))))
  · intro vs hvs C
    obtain ⟨q, _, rfl⟩ := List.mem_map.1 hvs
    rfl
  · unfold runInv
    exact List.Sublist.refl _
end Go.Proofs.YtkoehhpfjpdkcaaGreat

namespace Go.Proofs.YtkoehhpfjpdkcaaGreat
set_option linter.unusedVariables false
/-- The kinds are kept, and the values of the kinds that are not in the list. -/
def KeepC (ws : List Int) (a b : List Comp) : Prop := b.map Comp.kind = a.map Comp.kind ∧ ∀ (j : Nat) (c d : Comp), a[j]? = some c → b[j]? = some d → ws.contains c.kind = false → d.vals = c.vals
theorem KeepC.refl (ws : List Int) (a : List Comp) : KeepC ws a a := ⟨rfl, fun j c d h1 h2 _ => by rw [h1] at h2; injection h2 with h2; rw [h2]⟩
theorem KeepC.trans {ws : List Int} {a b c : List Comp} (h : KeepC ws a b) (k : KeepC ws b c) : KeepC ws a c := by
  refine ⟨k.1.trans h.1, fun j x z hx hz hn => ?_⟩
  have e : (b.map Comp.kind)[j]? = (a.map Comp.kind)[j]? := by rw [h.1]
  rw [List.getElem?_map, List.getElem?_map, hx] at e
  cases hb : b[j]? with
  | none => rw [hb] at e; cases e
  | some y =>
    rw [hb] at e
    injection e with e
    rw [k.2 j y z hb hz (by rw [e]; exact hn), h.2 j x y hx hb hn]
theorem setV_keep {ws : List Int} {cs : List Comp} (hs : SortC cs) {k : Int} (hk : ws.contains k = true) (f : Nat) (v : Int) : KeepC ws cs (setV cs k f v) := by
  refine ⟨setV_kinds hs k f v, fun j c d hc hd hn => ?_⟩
  cases hcc : compOf cs k with
  | none =>
    unfold setV at hd
    rw [hcc] at hd
    rw [hc] at hd
    injection hd with hd
    rw [hd]
  | some c' =>
    obtain ⟨e1, e2⟩ := setV_at hs hcc f v
    rw [e2] at hd
    by_cases hj : compAt cs k = j
    · subst hj
      rw [hc] at e1
      injection e1 with e1
      have := ((compOf_iff hs).1 hcc).2
      rw [e1, this, hk] at hn
      cases hn
    · rw [List.getElem?_set_ne hj, hc] at hd
      injection hd with hd
      rw [hd]
theorem doM_keep {ks : List Kind} {s : Sys} {index : Int} {e : Ent} {o : Op} {st : Rn} (h : RnG ks s st) (ho : OpG ks s.reads s.writes o) : KeepC s.writes st.comps (doM ks s index e o st).comps := by
  unfold doM
  split
  · exact setV_keep (held_iff.1 h.held).1 (ho.sets ‹_›).2 _ _
  · split
    · exact .refl _ _
    · split
      · exact .refl _ _
      · exact .refl _ _
theorem opsM_keep {ks : List Kind} {s : Sys} {index : Int} {e : Ent} (hk : checkErr ks = 0) : ∀ (os : List Op) {st : Rn} (h : RnG ks s st) (ho : ∀ o ∈ os, OpG ks s.reads s.writes o), KeepC s.writes st.comps (opsM ks s index e os st).comps
  | [], st, h, ho => .refl _ _
  | o :: os, st, h, ho => (doM_keep (index := index) (e := e) h (ho o (by simp))).trans (opsM_keep hk os (doM_ok hk h (ho o (by simp))).1 (fun o' h' => ho o' (by simp [h'])))
/-- An item that a system may have turned. -/
def KeepI (ks : List Kind) (ws : List Int) (x y : Item) : Prop := y.ent = x.ent ∧ KeepC ws x.comps y.comps ∧ heldOf ks y.comps = true
theorem rowsM_keep {ks : List Kind} {s : Sys} {index seed tick : Int} {l0 : List Item} (hk : checkErr ks = 0) (ho : ∀ o ∈ s.ops, OpG ks s.reads s.writes o) : ∀ (qs : List (Nat × Item)) (b : List Item × List Cmd × List Evt), (∀ q ∈ qs, l0[q.1]? = some q.2 ∧ heldOf ks q.2.comps = true ∧ HasK s q.2.comps) →
    (∀ (i : Nat) (x : Item), l0[i]? = some x → ∃ y, b.1[i]? = some y ∧ KeepI ks s.writes x y) → ∀ (i : Nat) (x : Item), l0[i]? = some x → ∃ y, (rowsM ks s index seed tick qs b).1[i]? = some y ∧ KeepI ks s.writes x y
  | [], b, _, h => h
  | q :: qs, b, hq, h => by
    obtain ⟨h1, h2, h3⟩ := hq q (by simp)
    refine rowsM_keep hk ho qs (b.1.set q.1 ⟨q.2.ent, (entM ks s index seed tick q.2 b.2.1 b.2.2).comps⟩, (entM ks s index seed tick q.2 b.2.1 b.2.2).cmds, (entM ks s index seed tick q.2 b.2.1 b.2.2).evs) (fun q' h' => hq q' (by simp [h'])) fun i x hx => ?_
    dsimp only
    obtain ⟨y, hy, hk'⟩ := h i x hx
    by_cases hi : q.1 = i
    · subst hi
      rw [h1] at hx
      injection hx with hx
      subst hx
      refine ⟨_, List.getElem?_set_self (List.getElem?_eq_some_iff.1 hy).1, rfl, ?_, ?_⟩
      · exact opsM_keep (index := index) (e := q.2.ent) hk s.ops (st := ⟨q.2.comps, rndOf [seed, tick, index, q.2.ent.n], b.2.1, b.2.2⟩) ⟨h2, h3, rndOf_odd _⟩ ho
      · exact (opsM_ok (index := index) (e := q.2.ent) hk s.ops (st := ⟨q.2.comps, rndOf [seed, tick, index, q.2.ent.n], b.2.1, b.2.2⟩) ⟨h2, h3, rndOf_odd _⟩ ho).1.held
    · exact ⟨y, by rw [List.getElem?_set_ne hi]; exact hy, hk'⟩
theorem allOf_has {w : Wd} {s : Sys} (hs : SysG w.kinds s) (hh : ∀ it ∈ w.items, heldOf w.kinds it.comps = true) : ∀ q ∈ allOf w.items s.wth s.wout, w.items[q.1]? = some q.2 ∧ heldOf w.kinds q.2.comps = true ∧ HasK s q.2.comps := by
  intro q hq
  obtain ⟨h1, h2⟩ := allTo_at hq
  exact ⟨h1, hh _ (List.mem_of_getElem? h1), match_has hs h2⟩
theorem runM_keep {w : Wd} {s : Sys} {index seed tick : Int} (hk : checkErr w.kinds = 0) (hs : SysG w.kinds s) (hh : ∀ it ∈ w.items, heldOf w.kinds it.comps = true) : ∀ (i : Nat) (x : Item), w.items[i]? = some x → ∃ y, (runM w s index seed tick).1[i]? = some y ∧ KeepI w.kinds s.writes x y :=
  rowsM_keep hk hs.ops _ _ (allOf_has hs hh) fun i x hx => ⟨x, hx, rfl, .refl _ _, hh _ (List.mem_of_getElem? hx)⟩
theorem runM_ents {w : Wd} {s : Sys} {index seed tick : Int} : (runM w s index seed tick).1.map Item.ent = w.items.map Item.ent :=
  rowsM_ent w.kinds s index seed tick _ _ fun q hq => by rw [(allTo_at hq).1]; rfl
theorem runM_len {w : Wd} {s : Sys} {index seed tick : Int} : (runM w s index seed tick).1.length = w.items.length := by
  have := congrArg List.length (runM_ents (w := w) (s := s) (index := index) (seed := seed) (tick := tick))
  simpa using this
theorem runM_ok {w : Wd} {s : Sys} {index seed tick : Int} (hw : wdErr w = 0) (hs : SysG w.kinds s) : wdErr ⟨w.kinds, w.gens, (runM w s index seed tick).1⟩ = 0 := by
  have g := (wdErr_iff w).1 hw
  refine (wdErr_iff _).2 ⟨g.ks, g.gl, by simpa [runM_len] using g.il, g.gs, ?_, fun it hit => ?_⟩
  · have h2 : ((runM w s index seed tick).1.map Item.ent).Pairwise fun a b => a.n < b.n := by rw [runM_ents]; exact (List.pairwise_map (f := Item.ent) (R := fun a b : Ent => a.n < b.n)).2 g.so
    exact (List.pairwise_map (f := Item.ent) (R := fun a b : Ent => a.n < b.n)).1 h2
  · obtain ⟨i, hi⟩ := List.getElem?_of_mem hit
    dsimp only at hi hit ⊢
    have hl : i < w.items.length := by
      have := (List.getElem?_eq_some_iff.1 hi).1
      rw [runM_len] at this
      exact this
    obtain ⟨y, h1, h2, h3, h4⟩ := runM_keep (index := index) (seed := seed) (tick := tick) g.ks hs (fun it h => (g.it it h).2.2.2.2) i w.items[i] (by simp [hl])
    rw [hi] at h1
    injection h1 with h1
    subst h1
    obtain ⟨a1, a2, a3, a4, a5⟩ := g.it w.items[i] (List.getElem_mem hl)
    rw [h2]
    exact ⟨a1, a2, a3, a4, h4⟩
end Go.Proofs.YtkoehhpfjpdkcaaGreat

namespace Go.Proofs.YtkoehhpfjpdkcaaGreat
set_option linter.unusedVariables false
theorem pick_no (w : Wd) (n : Int) (h : w.items = []) : PS Tryz.prog 9 [wdA false w, iA n] (.tup [entA ⟨0, 0⟩, bA false]) := by
  refine Spec.of (nt := 21) (res := [.cell 4 42, .tmp 5]) Tryz.func9 rfl (by kernel_rfl) rfl rfl rfl fun Sf => ?_
  (repeat refine WF ?_); refine AWP.region ?_; (repeat (first | (refine AOps.gN ?_; first | (refine AOps.g_box ?_; refine AOps.goB ?_)) | refine WO ?_ | refine All.i fun R => ?_ | refine AllY.i fun Y => ?_)); refine AOps.nil ?_; (repeat refine WN ?_)
  (repeat (first | refine WK ?_ | refine All.i fun X => ?_ | refine AllY.i fun Y => ?_))
  refine AWP.cond_t rfl (by rw [h]; rfl) ?_
  (repeat (first | refine WK ?_ | refine All.i fun X => ?_ | refine AllY.i fun Y => ?_))
  (refine AWP.ret ?_; (repeat (first | refine inB_r ?_ | refine andThen_r ?_)); refine retQ_r ?_)
  exact Ends.cv [entA ⟨0, 0⟩, bA false] [entA ⟨0, 0⟩, bA false] (.cons (.agg (.cons .same (.cons .same .nil))) (.cons (.cell .same) .nil))
theorem pick_yes (w : Wd) (n : Int) (i : Nat) (it : Item) (hi : n % (w.items.length : Int) = i) (h : w.items[i]? = some it) (hl : w.items.length ≤ 4611686018427387904) : PS Tryz.prog 9 [wdA false w, iA n] (.tup [entA it.ent, bA true]) := by
  have him : (w.items.map (itemA false)).length = w.items.length := List.length_map _
  have hil : i < w.items.length := (List.getElem?_eq_some_iff.1 h).1
  have hb := below_ps n (w.items.map (itemA false)).length (by omega) (by omega)
  rw [him, hi, ← him] at hb
  obtain ⟨⟨en, eg⟩, cs⟩ := it
  have hat : (w.items.map (itemA false))[i]? = some (itemA false ⟨⟨en, eg⟩, cs⟩) := by rw [List.getElem?_map, h]; rfl
  refine Spec.of (nt := 21) (res := [.cell 4 42, .tmp 5]) Tryz.func9 rfl (by kernel_rfl) rfl rfl rfl fun Sf => ?_
  (repeat refine WF ?_); refine AWP.region ?_; (repeat (first | (refine AOps.gN ?_; first | (refine AOps.g_box ?_; refine AOps.goB ?_)) | refine WO ?_ | refine All.i fun R => ?_ | refine AllY.i fun Y => ?_)); refine AOps.nil ?_; (repeat refine WN ?_)
  (repeat (first | refine WK ?_ | refine All.i fun X => ?_ | refine AllY.i fun Y => ?_))
  refine AWP.cond_f rfl (decide_eq_false (by omega)) ?_
  (repeat refine WF ?_); refine AWP.region_run (by kernel_rfl) (by kernel_rfl) ?_; (repeat (first | (refine RGo.gN ?_; first | refine RGo.c2 (h := hb) (k := ?_)) | (refine RGo.gQ ?_; first | refine RGo.c2 (h := hb) (k := ?_)) | refine RK ?_ | refine RGo.nil (by kernel_rfl) ?_))
  (refine AWP.ret ?_; (repeat (first | refine inB_r ?_ | refine andThen_r ?_)); refine retQ_r ?_)
  exact Ends.cv [entA ⟨en, eg⟩, bA true] [entA ⟨en, eg⟩, bA true] (.cons (.agg (.cons .same (.cons .same .nil))) (.cons (.cell .same) .nil))
end Go.Proofs.YtkoehhpfjpdkcaaGreat

namespace Go.Proofs.YtkoehhpfjpdkcaaGreat
set_option linter.unusedVariables false
end Go.Proofs.YtkoehhpfjpdkcaaGreat

namespace Go.Proofs.YtkoehhpfjpdkcaaGreat
set_option linter.unusedVariables false
theorem genWorld_ks (l : List Int) : 0 < (genWorld l).kinds.length ∧ (genWorld l).kinds.length ≤ 4 := ⟨genKinds_pos l, (genKinds_small l).1⟩
/-- An index out of a raw number. -/
theorem idx_of (n : Int) {m : Nat} (h : 0 < m) : ∃ i : Nat, n % (m : Int) = i ∧ i < m :=
  ⟨(n % (m : Int)).toNat, by have := Int.emod_nonneg n (b := (m : Int)) (by omega); omega, by have := Int.emod_lt_of_pos n (b := (m : Int)) (by omega); have := Int.emod_nonneg n (b := (m : Int)) (by omega); omega⟩
end Go.Proofs.YtkoehhpfjpdkcaaGreat

namespace Go.Proofs.YtkoehhpfjpdkcaaGreat
set_option linter.unusedVariables false
theorem argG_of {ks : List Kind} {rd wr : List Int} {a : Arg} (h : ArgOK ks (rd ++ wr) a) : ArgG ks rd wr a := by
  refine ⟨fun e => ?_, fun e => ?_⟩
  · obtain ⟨h1, h2, h3⟩ := h.1 e
    refine ⟨h1, h2, ?_⟩
    rw [List.mem_append] at h3
    rcases h3 with h3 | h3
    · exact .inl (by simpa using h3)
    · exact .inr (by simpa using h3)
  · obtain ⟨h1, h2, h3⟩ := h.2 e
    exact ⟨by omega, by omega, h3⟩
theorem opG_of {ks : List Kind} {rd wr : List Int} {o : Op} (h : OpOK ks rd wr o) : OpG ks rd wr o := by
  refine ⟨h.lo, h.hi, argG_of h.a, ?_, ?_, ?_, h.puts, h.none⟩
  · have hb := h.b
    split at hb
    · exact argG_of hb
    · rw [hb]
      exact ⟨fun e => (by cases e), fun _ => ⟨by decide, by decide, rfl⟩⟩
  · intro e
    have hb := h.b
    rw [if_neg (by rw [e]; decide)] at hb
    exact hb
  · intro e
    have : o.act ≤ 7 := by unfold setsB at e; simp at e; exact e.2
    obtain ⟨h1, h2⟩ := h.sets this
    exact ⟨h1, by simpa using h2⟩
theorem incr_len : ∀ (l : List Int) (a n : Int), l.Pairwise (· < ·) → (∀ x ∈ l, a ≤ x ∧ x < n) → a ≤ n → (l.length : Int) ≤ n - a
  | [], a, n, _, _, h => by simp; omega
  | x :: l, a, n, hp, hr, h => by
    obtain ⟨h1, h2⟩ := List.pairwise_cons.1 hp
    obtain ⟨h3, h4⟩ := hr x (by simp)
    have := incr_len l (x + 1) n h2 (fun y hy => by
      have e1 := h1 y hy
      have e2 := (hr y (by simp [hy])).2
      omega) (by omega)
    rw [List.length_cons]
    omega
theorem sysG_of {ks : List Kind} {n : Nat} {s : Sys} (hk : checkErr ks = 0) (hg : KsGood ks) (hn : n < 6) (h : SysOK ks n s) : SysG ks s := by
  have h16 := (checkErr_one hk).1
  have hl := h.lists
  have hin : ∀ l : List Int, l.Pairwise (· < ·) → (∀ x ∈ l, 0 ≤ x ∧ x < (ks.length : Int)) → l.length ≤ 16 := fun l h1 h2 => by
    have := incr_len l 0 ks.length h1 h2 (by omega)
    omega
  have r3 : ∀ x ∈ s.reads, 0 ≤ x ∧ x < (ks.length : Int) := fun x hx => hl.r1 x (hl.s3 x hx)
  have r4 : ∀ x ∈ s.writes, 0 ≤ x ∧ x < (ks.length : Int) := fun x hx => hl.r1 x (hl.s4 x hx)
  have hsp : (wFit ks s.spawn).2 = 0 ∧ s.spawn.length ≤ 1099511627776 := by
    rcases h.spawn with e | ⟨q, e⟩
    · rw [e]; exact ⟨by rw [wFit_held hk (by rfl)], by simp⟩
    · rw [e]
      have hh := genComps_held hg q
      have := (held_small hk hh).1
      exact ⟨by rw [wFit_held hk hh], by omega⟩
  refine ⟨?_, by have := h.len; omega, ?_, ?_, ?_, hsp.1, hsp.2, fun o ho => opG_of (h.ops o ho)⟩
  · rw [h.name]
    rcases (show n = 0 ∨ n = 1 ∨ n = 2 ∨ n = 3 ∨ n = 4 ∨ n = 5 by omega) with rfl | rfl | rfl | rfl | rfl | rfl <;> decide
  · intro l hl'
    simp only [List.mem_cons, List.not_mem_nil, or_false] at hl'
    rcases hl' with rfl | rfl | rfl | rfl
    · exact ⟨hl.o1, hl.r1, hin _ hl.o1 hl.r1⟩
    · exact ⟨hl.o2, hl.r2, hin _ hl.o2 hl.r2⟩
    · exact ⟨hl.o3, r3, hin _ hl.o3 r3⟩
    · exact ⟨hl.o4, r4, hin _ hl.o4 r4⟩
  · rw [List.any_eq_false]
    intro x hx
    have := hl.d x hx
    simpa using this
  · rw [List.any_eq_false]
    intro x hx
    rw [List.mem_append] at hx
    have : x ∈ s.wth := by exact hx.elim (hl.s3 x) (hl.s4 x)
    simpa using this
end Go.Proofs.YtkoehhpfjpdkcaaGreat

namespace Go.Proofs.YtkoehhpfjpdkcaaGreat
set_option linter.unusedVariables false
/-- IndexFunc over a row that is written later. -/
theorem indexFuncOI_po (X : Nat) (l : List Int) (f : FuncId) (cap : List AV) (p : Int → Bool) (hs : st1s cap = true) (hl : l.length ≤ 4611686018427387904) (hf : ∀ x ∈ l, PS Tryz.prog f (iA x :: cap) (bA (p x))) : PO Tryz.prog 75 [.sl X 0 l.length, .fn f cap] X (.row 3 1 (l.map iA)) (iA (idxF l p)) (.row 3 1 (l.map iA)) := by
  refine Spec.of (nt := 19) (res := [.tmp 4]) Tryz.func75 rfl (by kernel_rfl) rfl rfl rfl fun Sf => ?_
  (repeat (first | refine WK ?_ | refine All.i fun X => ?_ | refine AllY.i fun Y => ?_))
  refine AWP.lp (fun i : Nat => ⟨[(0, .sl X 0 l.length), (1, .fn f cap), (7, iA l.length), (8, iA i)], (X, .row 3 1 (l.map iA)) :: Sf⟩) (fun i => i ≤ l.length ∧ ∀ j (h : j < l.length), j < i → p l[j] = false) (fun i => l.length - i) 0 ⟨Nat.zero_le _, fun j h hj => absurd hj (by omega)⟩ ?_
  rintro i ⟨hi, he⟩
  (repeat (first | refine WK ?_ | refine All.i fun X => ?_ | refine AllY.i fun Y => ?_))
  refine AWP.cond rfl (fun hc => ?_) (fun hc => ?_)
  · have h : i < l.length := by simpa using hc
    (repeat (first | (refine AOps.gN ?_; first | (refine AOps.g_callv ?_; first | refine AOps.k1 (h := (hf _ (List.getElem_mem h))) (k := ?_))) | refine WK ?_ | refine All.i fun X => ?_ | refine AllY.i fun Y => ?_))
    refine AWP.cond rfl (fun hd => ?_) (fun hd => ?_)
    · (repeat (first | refine WK ?_ | refine All.i fun X => ?_ | refine AllY.i fun Y => ?_))
      (refine AWP.ret ?_; (repeat (first | refine inB_r ?_ | refine andThen_r ?_)); refine retQ_r ?_); refine Ends.po ?_ ?_
      · rw [idxF_some h hd fun j hj => he j (by omega) hj]
      · rfl
    · (repeat (first | refine WK ?_ | refine All.i fun X => ?_ | refine AllY.i fun Y => ?_))
      refine lp_next (i + 1) ⟨h, fun j h1 h2 => ?_⟩
      by_cases e : j = i
      · subst e; exact hd
      · exact he j h1 (by omega)
  · have h : ¬ i < l.length := by simpa using hc
    (repeat (first | refine WK ?_ | refine All.i fun X => ?_ | refine AllY.i fun Y => ?_))
    (refine AWP.ret ?_; (repeat (first | refine inB_r ?_ | refine andThen_r ?_)); refine retQ_r ?_); refine Ends.po ?_ ?_
    · rw [idxF_none fun j hj => he j hj (by omega)]
    · rfl
theorem deleteFuncI_sp (X : Nat) (l : List Int) (f : FuncId) (cap : List AV) (p : Int → Bool) (hs : st1s cap = true) (hl : l.length ≤ 4611686018427387903) (hf : ∀ x ∈ l, PS Tryz.prog f (iA x :: cap) (bA (p x))) : Spec Tryz.prog 69 [.sl X 0 l.length, .fn f cap] [(X, .row 3 1 (l.map iA))] fun r S' => r = .lst true 3 1 ((l.filter fun x => !p x).map iA) ∧ S' = [] := by
  refine Spec.of (nt := 42) (res := [.tmp 4]) Tryz.func69 rfl (by kernel_rfl) rfl rfl rfl fun Sf => ?_
  have h0 := indexFuncOI_po X l f cap p hs (by omega) hf
  have hr := idxF_range l p
  obtain ⟨v, hv⟩ : ∃ v, idxF l p = v := ⟨_, rfl⟩
  rw [hv] at h0 hr
  (repeat (first | (refine AOps.gN ?_; first | (refine AOps.g_callf ?_; first | refine AOps.o2 (h := (h0 ..)) (k := ?_))) | refine WK ?_ | refine All.i fun X => ?_ | refine AllY.i fun Y => ?_))
  refine AWP.cond rfl (fun hc => ?_) (fun hc => ?_)
  · have hc : v = -1 := by simpa using hc
    have hall : (l.filter fun x => !p x) = l := by
      rw [List.filter_eq_self]
      intro x hx
      have h1 : l.findIdx? p = none := by
        unfold idxF at hv
        split at hv
        · omega
        · assumption
      rw [List.findIdx?_eq_none_iff] at h1
      simp [h1 x hx]
    rw [hall]
    (repeat (first | refine WK ?_ | refine All.i fun X => ?_ | refine AllY.i fun Y => ?_))
    (refine AWP.ret ?_; (repeat (first | refine inB_r ?_ | refine andThen_r ?_)); refine retQ_r ?_)
    exact ⟨[.sl X 0 l.length], [.lst true 3 1 (l.map iA)], _, [], .cons (.tmp rfl) rfl .nil, .cons (.cell (.sl (p := 0) .here (by simp))) .nil, by exact Sub.f, rfl, rfl⟩
  · have hc : v ≠ -1 := by simpa using hc
    obtain ⟨i0, hi0⟩ : ∃ i0 : Nat, v = i0 := ⟨v.toNat, by omega⟩
    subst hi0
    have hfi : l.findIdx? p = some i0 := by
      unfold idxF at hv
      split at hv
      · rename_i i hi; rw [hi]; congr 1; omega
      · omega
    obtain ⟨hil, hpi, hmin⟩ := List.findIdx?_eq_some_iff_getElem.1 hfi
    have ht0 : (l.take (i0 + 1)).filter (fun x => !p x) = l.take i0 := by
      rw [List.take_succ_eq_append_getElem hil, List.filter_append]
      rw [show ([l[i0]].filter fun x => !p x) = [] by simp [hpi], List.append_nil, List.filter_eq_self]
      intro x hx
      obtain ⟨j, hj, rfl⟩ := List.mem_take_iff_getElem.1 hx
      have := hmin j (by omega)
      simp at this ⊢
      exact this
    (repeat (first | refine WK ?_ | refine All.i fun X => ?_ | refine AllY.i fun Y => ?_))
    refine AWP.lp3 (fun (i j : Nat) (M : List AV) => ⟨[(0, .sl X 0 l.length), (1, .fn f cap), (5, iA i), (6, iA j)], (X, .row 3 1 M) :: Sf⟩) (fun i j M => i < j ∧ j ≤ l.length ∧ ∃ K : List Int, M = K.map iA ∧ K.length = l.length ∧ K.take i = ((l.take j).filter fun x => !p x) ∧ K.drop j = l.drop j) (fun i j _ => l.length - j) i0 (i0 + 1) (l.map iA) ⟨by omega, hil, l, rfl, rfl, ht0.symm, rfl⟩ ?_
    rintro i j M ⟨hij, hj, K, rfl, hM, h1, h2⟩
    (repeat (first | refine WK ?_ | refine All.i fun X => ?_ | refine AllY.i fun Y => ?_))
    refine AWP.cond rfl (fun hd => ?_) (fun hd => ?_)
    · have h : j < l.length := by simpa using hd
      have hKj : K[j]? = some l[j] := by
        have := congrArg (fun z => z[0]?) h2
        simpa [h] using this
      have hat : (K.map iA)[j]? = some (iA l[j]) := by rw [List.getElem?_map, hKj]; rfl
      have hKi : i < K.length := by omega
      obtain ⟨b, hb⟩ : ∃ b, p l[j] = b := ⟨_, rfl⟩
      have hfj := hf _ (List.getElem_mem h)
      rw [hb] at hfj
      have htk : (l.take (j + 1)).filter (fun x => !p x) = (l.take j).filter (fun x => !p x) ++ if b then [] else [l[j]] := by
        rw [List.take_succ_eq_append_getElem h, List.filter_append]
        congr 1
        cases b <;> simp [hb]
      (repeat (first | (refine AOps.gN ?_; first | (refine AOps.g_callv ?_; first | refine AOps.k1 (h := (hfj ..)) (k := ?_))) | refine WK ?_ | refine All.i fun X => ?_ | refine AllY.i fun Y => ?_))
      cases b
      · refine AWP.cond_t rfl rfl ?_
        (repeat (first | refine WK ?_ | refine All.i fun X => ?_ | refine AllY.i fun Y => ?_))
        refine lp_next3 (i + 1) (j + 1) _ ⟨by omega, h, K.set i l[j], by rw [List.map_set], by simpa using hM, ?_, ?_⟩
        · rw [htk, ← h1, List.take_add_one, List.take_set, List.set_eq_of_length_le (by rw [List.length_take]; omega), List.getElem?_set_self hKi]
          simp
        · rw [List.drop_set_of_lt (by omega), ← List.drop_drop, h2, List.drop_drop]
      · refine AWP.cond_f rfl rfl ?_
        (repeat (first | refine WK ?_ | refine All.i fun X => ?_ | refine AllY.i fun Y => ?_))
        refine lp_next3 i (j + 1) _ ⟨by omega, h, K, rfl, hM, ?_, ?_⟩
        · rw [h1, htk]; simp
        · rw [← List.drop_drop, h2, List.drop_drop]
    · have h : j = l.length := by rw [decide_eq_false_iff_not] at hd; omega
      subst h
      have h1' : K.take i = l.filter fun x => !p x := by rw [h1, List.take_length]
      have hKl : (K.map iA).length = l.length := by rw [List.length_map, hM]
      have hki : ∀ A B, (List.take (0 + i) (K.map iA) ++ A ++ B).take i = (l.filter fun x => !p x).map iA := fun A B => by
        rw [Nat.zero_add, List.append_assoc, List.take_append_of_le_length (by rw [List.length_take]; omega), List.take_take, Nat.min_self, ← List.map_take, h1']
      have hfl : i = ((l.filter fun x => !p x).map iA).length := by
        rw [← h1', List.length_map, List.length_take]; omega
      (repeat (first | (refine AOps.gN ?_; first | refine AOps.s (W.slice_lo rfl rfl (by exact At.f) rfl (by omega)) rfl ?_ | refine AOps.s (W.clear rfl (by exact At.f) (by first | exact .inl rfl | exact .inr rfl) rfl (by omega)) rfl ?_ | refine AOps.p (W.hi rfl rfl (by exact At.f) rfl (by omega)) rfl ?_) | refine WK ?_ | refine All.i fun X => ?_ | refine AllY.i fun Y => ?_))
      refine AWP.shrink (X := X) i ?_
      rw [hki]
      (refine AWP.ret ?_; (repeat (first | refine inB_r ?_ | refine andThen_r ?_)); refine retQ_r ?_)
      exact ⟨[.sl X 0 i], [.lst true 3 1 ((l.filter fun x => !p x).map iA)], _, [], .cons (.tmp rfl) rfl .nil, .cons (.cell (.sl (p := 0) .here hfl)) .nil, by exact Sub.f, rfl, rfl⟩
end Go.Proofs.YtkoehhpfjpdkcaaGreat

namespace Go.Proofs.YtkoehhpfjpdkcaaGreat
set_option linter.unusedVariables false
theorem flds_at {ks : List Kind} {i : Int} {j : Nat} (hi : i = j) (hj : j < ks.length) : flds ks i = (ks[j].fields.map fieldA).length := by
  unfold flds
  rw [hi, show ((j : Int)).toNat = j from rfl, List.getElem?_eq_getElem hj, List.length_map]
theorem arg_po (G : Nat) (ks : List Kind) (seen l : List Int) (hk : KindsOK ks) (h0 : seen ≠ []) (hs : ∀ x ∈ seen, 0 ≤ x ∧ x < ks.length) (hl : seen.length ≤ 4398046511104) : PO Tryz.prog 71 [.fp [.ptr G 0 0], .fp [intsA false seen], .fp [kindsA false false ks]] G (streamO l) (argA (argOf ks seen l).1) (streamO (argOf ks seen l).2) := by
  refine Spec.of (nt := 30) (res := [.cell 3 80]) Tryz.func71 rfl (by kernel_rfl) rfl rfl rfl fun Sf => ?_
  have h2 := nextV_range l (n := 2) (by decide)
  have hn0 : 0 < seen.length := List.length_pos_iff.2 h0
  have hv := nextV_range (nextL l 2) (n := seen.length) (by omega)
  obtain ⟨i, hi⟩ : ∃ i : Nat, nextV (nextL l 2) seen.length = i := ⟨(nextV (nextL l 2) seen.length).toNat, by omega⟩
  have hil : i < seen.length := by omega
  obtain ⟨j, hj⟩ : ∃ j : Nat, seen[i] = j := ⟨seen[i].toNat, by have := hs _ (List.getElem_mem hil); omega⟩
  have hjl : j < ks.length := by have := hs _ (List.getElem_mem hil); omega
  obtain ⟨hk0, hk1⟩ := hk
  have hfl := (hk1 _ (List.getElem_mem hjl)).1
  (repeat (first | (refine AOps.gN ?_; first | (refine AOps.g_callf ?_; first | refine AOps.o2 (h := (next_po G _ _ (by decide))) (k := ?_))) | refine WK ?_ | refine All.i fun R => ?_ | refine AllY.i fun Y => ?_))
  refine AWP.cond rfl (fun hb => ?_) (fun hb => ?_)
  · have hb : nextV l 2 = 0 := by simpa using hb
    have h20 := nextV_range (nextL l 2) (n := 20) (by decide)
    (repeat (first | (refine AOps.gN ?_; first | (refine AOps.g_callf ?_; first | refine AOps.o2 (h := (next_po G _ _ (by decide))) (k := ?_))) | refine WK ?_ | refine All.i fun X => ?_ | refine AllY.i fun Y => ?_))
    (refine AWP.ret ?_; (repeat (first | refine inB_r ?_ | refine andThen_r ?_)); refine retQ_r ?_)
    have he : argOf ks seen l = (⟨false, nextV (nextL l 2) 20 - 6, ⟨0, 0⟩⟩, nextL (nextL l 2) 20) := by rw [argOf, if_pos hb]
    rw [he]
    exact Ends.idS (rs := [argA ⟨false, nextV (nextL l 2) 20 - 6, ⟨0, 0⟩⟩]) rfl rfl (.cons (.cell (p := 0) rfl .here TAg.h TSize.h rfl rfl) rfl .nil)
  · have hb : nextV l 2 ≠ 0 := by simpa using hb
    obtain ⟨l1, hl1⟩ : ∃ l1, nextL l 2 = l1 := ⟨_, rfl⟩
    rw [hl1] at hi hv ⊢
    have hfd := flds_at (ks := ks) hj hjl
    have hsd : seen.getD (nextV l1 seen.length).toNat 0 = seen[i] := by rw [hi]; simp [hil]
    have he : argOf ks seen l = (⟨true, 0, ⟨seen[i], nextV (nextL l1 seen.length) (flds ks seen[i])⟩⟩, nextL (nextL l1 seen.length) (flds ks seen[i])) := by rw [argOf, if_neg hb, hl1, hsd]
    rw [he, hfd]
    have hon : PO Tryz.prog 32 [.ptr G 0 0, iA (seen.map iA).length] G (streamO l1) (iA i) (streamO (nextL l1 seen.length)) := by
      have := next_po G l1 seen.length (by omega)
      rw [hi] at this
      rw [List.length_map]
      exact this
    have hon2 := next_po G (nextL l1 seen.length) (ks[j].fields.map fieldA).length (by rw [List.length_map]; omega)
    rw [hj] at he ⊢
    (repeat refine WF ?_); refine AWP.region_run (by kernel_rfl) (by kernel_rfl) ?_; (repeat (first | (refine RGo.gN ?_; first | (refine RGo.g_callf ?_; first | refine RGo.o2 (h := (hon ..)) (k := ?_))) | (refine RGo.gQ ?_; first | (refine RGo.g_callf ?_; first | refine RGo.o2 (h := (hon ..)) (k := ?_))) | refine RK ?_ | refine RGo.nil (by kernel_rfl) ?_))
    rw [hj]
    (repeat refine WF ?_); refine AWP.region_run (by kernel_rfl) (by kernel_rfl) ?_; (repeat (first | (refine RGo.gN ?_; first | (refine RGo.g_callf ?_; first | refine RGo.o2 (h := (hon2 ..)) (k := ?_))) | (refine RGo.gQ ?_; first | (refine RGo.g_callf ?_; first | refine RGo.o2 (h := (hon2 ..)) (k := ?_))) | refine RK ?_ | refine RGo.nil (by kernel_rfl) ?_))
    (repeat (first | refine WK ?_ | refine All.i fun X => ?_ | refine AllY.i fun Y => ?_))
    (refine AWP.ret ?_; (repeat (first | refine inB_r ?_ | refine andThen_r ?_)); refine retQ_r ?_)
    exact Ends.idS (rs := [argA ⟨true, 0, ⟨j, nextV (nextL l1 seen.length) (ks[j].fields.map fieldA).length⟩⟩]) rfl rfl (.cons (.cell (p := 0) rfl .here TAg.h TSize.h rfl rfl) rfl .nil)
theorem argOf_ok (ks : List Kind) (seen l : List Int) (hk : KindsOK ks) (hf : ∀ k ∈ ks, k.fields ≠ []) (h0 : seen ≠ []) (hs : ∀ x ∈ seen, 0 ≤ x ∧ x < ks.length) : ArgOK ks seen (argOf ks seen l).1 := by
  have hn0 : 0 < seen.length := List.length_pos_iff.2 h0
  have hv := nextV_range (nextL l 2) (n := seen.length) (by omega)
  have h20 := nextV_range (nextL l 2) (n := 20) (by decide)
  unfold argOf ArgOK
  split
  · exact ⟨fun h => (by cases h), fun _ => ⟨by show -6 ≤ nextV (nextL l 2) 20 - 6; omega, by show nextV (nextL l 2) 20 - 6 ≤ 13; omega, rfl⟩⟩
  · obtain ⟨i, hi⟩ : ∃ i : Nat, nextV (nextL l 2) seen.length = i := ⟨(nextV (nextL l 2) seen.length).toNat, by omega⟩
    have hil : i < seen.length := by omega
    have hsd : seen.getD (nextV (nextL l 2) seen.length).toNat 0 = seen[i] := by rw [hi]; simp [hil]
    obtain ⟨j, hj⟩ : ∃ j : Nat, seen[i] = j := ⟨seen[i].toNat, by have := hs _ (List.getElem_mem hil); omega⟩
    have hjl : j < ks.length := by have := hs _ (List.getElem_mem hil); omega
    have hfd := flds_at (ks := ks) hj hjl
    have hfp : 0 < ks[j].fields.length := List.length_pos_iff.2 (hf _ (List.getElem_mem hjl))
    rw [List.length_map] at hfd
    have hv2 := nextV_range (nextL (nextL l 2) seen.length) (n := flds ks seen[i]) (by omega)
    rw [hsd]
    exact ⟨fun _ => ⟨rfl, ⟨(hs _ (List.getElem_mem hil)).1, (hs _ (List.getElem_mem hil)).2, hv2.1, hv2.2⟩, List.getElem_mem hil⟩, fun h => (by cases h)⟩
theorem pw_len : ∀ {l : List Int} {a n : Int}, l.Pairwise (· < ·) → (∀ x ∈ l, a ≤ x ∧ x < n) → a ≤ n → (l.length : Int) ≤ n - a
  | [], a, n, _, _, h => by simp; omega
  | x :: l, a, n, hp, hr, _ => by
    have hx := hr x (by simp)
    rw [List.pairwise_cons] at hp
    have := pw_len (a := x + 1) (n := n) hp.2 (fun y hy => ⟨by have := hp.1 y hy; omega, (hr y (by simp [hy])).2⟩) (by omega)
    simp only [List.length_cons]
    omega
structure Sys2 where
  j : Nat
  A : Nat
  m : Nat
  M : List AV
  sp : List Comp
  q : List Int
structure Sys2.OK (ks : List Kind) (w3 w4 : List Int) (c : Nat) (b : Sys2) : Prop where
  le : b.j ≤ c
  e : ∃ ops : List Op, b.M = ops.map opA ∧ ∀ o ∈ ops, OpOK ks w3 w4 o
  m : b.m = b.M.length
  mj : b.m = b.j
  sp : b.sp = [] ∨ ∃ q, b.sp = (genComps ks q).1
/-- The states of the first loop of system. -/
structure Sys1 where
  i : Nat
  A1 : Nat
  A2 : Nat
  A3 : Nat
  A4 : Nat
  n1 : Nat
  n2 : Nat
  n3 : Nat
  n4 : Nat
  M1 : List AV
  M2 : List AV
  M3 : List AV
  M4 : List AV
  q : List Int
structure Sys1.OK (ks : List Kind) (b : Sys1) : Prop where
  le : b.i ≤ ks.length
  e : ∃ w1 w2 w3 w4, b.M1 = w1.map iA ∧ b.M2 = w2.map iA ∧ b.M3 = w3.map iA ∧ b.M4 = w4.map iA ∧ SysL w1 w2 w3 w4 b.i
  n1 : b.n1 = b.M1.length
  n2 : b.n2 = b.M2.length
  n3 : b.n3 = b.M3.length
  n4 : b.n4 = b.M4.length
  b1 : b.n1 ≤ b.i
  b2 : b.n2 ≤ b.i
  b3 : b.n3 ≤ b.i
  b4 : b.n4 ≤ b.i
theorem sysNames_at {i : Nat} (h : i < 6) : [sA [111, 110, 101], sA [116, 119, 111], sA [116, 104, 114, 101, 101], sA [102, 111, 117, 114], sA [102, 105, 118, 101], sA [115, 105, 120]][i]? = some (sA (sysName i)) := by
  have : i = 0 ∨ i = 1 ∨ i = 2 ∨ i = 3 ∨ i = 4 ∨ i = 5 := by omega
  rcases this with rfl | rfl | rfl | rfl | rfl | rfl <;> rfl
theorem isZero_ps (x : Int) : PS Tryz.prog 70 [iA x] (bA (decide (x = 0))) := by
  refine Spec.of (nt := 5) (res := [.tmp 2]) Tryz.func70 rfl (by kernel_rfl) rfl rfl rfl fun Sf => ?_
  (repeat (first | refine WK ?_ | refine All.i fun X => ?_ | refine AllY.i fun Y => ?_))
  (refine AWP.ret ?_; (repeat (first | refine inB_r ?_ | refine andThen_r ?_)); refine retQ_r ?_); refine Ends.ps ?_
  rfl
abbrev sys0 : AO := .row 31 7 [.agg [.prim (.string ByteArray.empty), .prim (.slice none 0 0), .prim (.slice none 0 0), .prim (.slice none 0 0), .prim (.slice none 0 0), .prim (.slice none 0 0), .prim (.slice none 0 0)]]
set_option maxHeartbeats 1000000 in
/-- The system that system returns: valid. -/
theorem system_sp (G : Nat) (ks : List Kind) (l : List Int) (n : Nat) (hk : KindsOK ks) (hf : ∀ k ∈ ks, k.fields ≠ []) (h0 : ks ≠ []) (hn : n < 6) : Spec Tryz.prog 40 [kindsA false false ks, .ptr G 0 0, iA n] [(G, streamO l)] fun r S' => ∃ b : Sys × List Int, SysOK ks n b.1 ∧ r = sysA false b.1 ∧ S' = [(G, streamO b.2)] := by
  refine Spec.of (nt := 187) (res := [.cell 6 31]) Tryz.func40 rfl (by kernel_rfl) rfl rfl rfl fun Sf => ?_
  have hkn := sysNames_at hn
  have hks := hk.1
  have hk1 : 0 < ks.length := List.length_pos_iff.2 h0
  (repeat refine WF ?_); refine AWP.region ?_; (repeat (first | (refine AOps.gN ?_; first | (refine AOps.g_box ?_; refine AOps.goB ?_)) | refine WO ?_ | refine All.i fun R => ?_ | refine AllY.i fun Y => ?_)); refine AOps.nil ?_; (repeat refine WN ?_)
  (repeat refine WF ?_); refine AWP.region ?_; (repeat (first | refine WO ?_ | refine All.i fun X => ?_ | refine AllY.i fun Y => ?_)); refine AOps.nil ?_; (repeat refine WN ?_)
  refine AWP.nilIn 104 2 (Y := X) (.cons (.agg (.cons .same (.cons .same (.cons .same (.cons .same (.cons .same (.cons .same (.cons (.base .nil) .nil)))))))) .nil) ?_
  refine AWP.adoptIn (Y := X) 82 11 (by exact At.f) (fun F => .cons (.agg (.cons .same (.cons .same (.cons .same (.cons .same (.cons .same (.cons (.base .nil) (.cons .same .nil)))))))) .nil) fun A5 => ?_
  refine AWP.adoptIn (Y := X) 3 1 (by exact At.f) (fun F => .cons (.agg (.cons .same (.cons .same (.cons .same (.cons .same (.cons (.base .nil) (.cons .same (.cons .same .nil)))))))) .nil) fun A4 => ?_
  refine AWP.adoptIn (Y := X) 3 1 (by exact At.f) (fun F => .cons (.agg (.cons .same (.cons .same (.cons .same (.cons (.base .nil) (.cons .same (.cons .same (.cons .same .nil)))))))) .nil) fun A3 => ?_
  refine AWP.adoptIn (Y := X) 3 1 (by exact At.f) (fun F => .cons (.agg (.cons .same (.cons .same (.cons (.base .nil) (.cons .same (.cons .same (.cons .same (.cons .same .nil)))))))) .nil) fun A2 => ?_
  refine AWP.adoptIn (Y := X) 3 1 (by exact At.f) (fun F => .cons (.agg (.cons .same (.cons (.base .nil) (.cons .same (.cons .same (.cons .same (.cons .same (.cons .same .nil)))))))) .nil) fun A1 => ?_
  (repeat refine WF ?_); refine AWP.region ?_; (repeat (first | refine WO ?_ | refine All.i fun X => ?_ | refine AllY.i fun Y => ?_)); refine AOps.nil ?_; (repeat refine WN ?_)
  (repeat first | refine AOps.nil ?_ | refine WF ?_)
  refine AWP.lp (fun b : Sys1 => ⟨[(3, .fp [kindsA false false ks]), (4, .fp [.ptr G 0 0]), (6, .ptr R 0 0), (7, .ptr X 0 0), (19, iA (ks.map (kindA false)).length), (20, iA b.i)], (b.A1, .row 3 1 b.M1) :: (b.A2, .row 3 1 b.M2) :: (b.A3, .row 3 1 b.M3) :: (b.A4, .row 3 1 b.M4) :: (A5, .row 82 11 []) :: (X, .row 31 7 [.agg [sA (sysName n), .sl b.A1 0 b.n1, .sl b.A2 0 b.n2, .sl b.A3 0 b.n3, .sl b.A4 0 b.n4, .sl A5 0 0, .lst false 104 2 []]]) :: (R, sys0) :: (G, streamO b.q) :: Sf⟩) (Sys1.OK ks) (fun b => ks.length - b.i) ⟨0, A1, A2, A3, A4, 0, 0, 0, 0, [], [], [], [], l⟩ ⟨Nat.zero_le _, ⟨[], [], [], [], rfl, rfl, rfl, rfl, SysL.nil _⟩, rfl, rfl, rfl, rfl, Nat.le_refl _, Nat.le_refl _, Nat.le_refl _, Nat.le_refl _⟩ ?_
  rintro ⟨i, A1, A2, A3, A4, n1, n2, n3, n4, M1, M2, M3, M4, q⟩ ⟨hi, ⟨w1, w2, w3, w4, h1, h2, h3, h4, hL⟩, e1, e2, e3, e4, b1, b2, b3, b4⟩
  dsimp only at hi h1 h2 h3 h4 hL e1 e2 e3 e4 b1 b2 b3 b4 ⊢
  have hi40 : i ≤ 1099511627775 ∨ i = ks.length := by omega
  (repeat (first | refine WK ?_ | refine All.i fun X => ?_ | refine AllY.i fun Y => ?_))
  refine AWP.cond rfl (fun hc => ?_) (fun hc => ?_)
  · have h : i < ks.length := by simpa using hc
    have h4' := nextV_range q (n := 4) (by decide)
    have c1 : n1 + 1 ≤ 1099511627776 := by omega
    have c2 : n2 + 1 ≤ 1099511627776 := by omega
    have c3 : n3 + 1 ≤ 1099511627776 := by omega
    have c4 : n4 + 1 ≤ 1099511627776 := by omega
    have ap : ∀ w : List Int, w.map iA ++ [iA (i : Int)] = (w ++ [(i : Int)]).map iA := fun w => by rw [List.map_append]; rfl
    have al : ∀ (m : Nat) (M : List AV), m = M.length → m + 1 = (M ++ [iA (i : Int)]).length := fun m M hm => by rw [List.length_append, hm]; rfl
    (repeat (first | (refine AOps.gN ?_; first | (refine AOps.g_callf ?_; first | refine AOps.o2 (h := (next_po G _ _ (by decide))) (k := ?_))) | refine WK ?_ | refine All.i fun X => ?_ | refine AllY.i fun Y => ?_))
    refine AWP.cond rfl (fun hd => ?_) (fun hd => ?_)
    · refine AWP.rs fun Y1 => AWP.rs fun Y3 => ?_
      (repeat refine WF ?_); refine AWP.region_run (by kernel_rfl) (by kernel_rfl) ?_; (repeat (first | refine RK ?_ | refine RGo.nil (by kernel_rfl) ?_))
      (repeat (first | refine WK ?_ | refine All.i fun X => ?_ | refine AllY.i fun Y => ?_))
      refine lp_next (⟨i + 1, Y3, A2, Y1, A4, n1 + 1, n2, n3 + 1, n4, M1 ++ [iA i], M2, M3 ++ [iA i], M4, nextL q 4⟩ : Sys1) ⟨h, ⟨w1 ++ [(i : Int)], w2, w3 ++ [(i : Int)], w4, ?_, h2, ?_, h4, hL.read (by omega)⟩, al _ _ e1, e2, al _ _ e3, e4, ?_, ?_, ?_, ?_⟩ (by dsimp only; omega)
      · dsimp only; rw [h1, ap]
      · dsimp only; rw [h3, ap]
      all_goals (dsimp only; omega)
    · (repeat (first | refine WK ?_ | refine All.i fun X => ?_ | refine AllY.i fun Y => ?_))
      refine AWP.cond rfl (fun he => ?_) (fun he => ?_)
      · refine AWP.rs fun Y1 => AWP.rs fun Y3 => ?_
        (repeat refine WF ?_); refine AWP.region_run (by kernel_rfl) (by kernel_rfl) ?_; (repeat (first | refine RK ?_ | refine RGo.nil (by kernel_rfl) ?_))
        (repeat (first | refine WK ?_ | refine All.i fun X => ?_ | refine AllY.i fun Y => ?_))
        refine lp_next (⟨i + 1, Y3, A2, A3, Y1, n1 + 1, n2, n3, n4 + 1, M1 ++ [iA i], M2, M3, M4 ++ [iA i], nextL q 4⟩ : Sys1) ⟨h, ⟨w1 ++ [(i : Int)], w2, w3, w4 ++ [(i : Int)], ?_, h2, h3, ?_, hL.write (by omega)⟩, al _ _ e1, e2, e3, al _ _ e4, ?_, ?_, ?_, ?_⟩ (by dsimp only; omega)
        · dsimp only; rw [h1, ap]
        · dsimp only; rw [h4, ap]
        all_goals (dsimp only; omega)
      · (repeat (first | refine WK ?_ | refine All.i fun X => ?_ | refine AllY.i fun Y => ?_))
        refine AWP.cond rfl (fun hg => ?_) (fun hg => ?_)
        · (repeat (first | refine WK ?_ | refine All.i fun X => ?_ | refine AllY.i fun Y => ?_))
          refine lp_next (⟨i + 1, A1, Y, A3, A4, n1, n2 + 1, n3, n4, M1, M2 ++ [iA i], M3, M4, nextL q 4⟩ : Sys1) ⟨h, ⟨w1, w2 ++ [(i : Int)], w3, w4, h1, ?_, h3, h4, hL.without (by omega)⟩, e1, al _ _ e2, e3, e4, ?_, ?_, ?_, ?_⟩ (by dsimp only; omega)
          · dsimp only; rw [h2, ap]
          all_goals (dsimp only; omega)
        · (repeat (first | refine WK ?_ | refine All.i fun X => ?_ | refine AllY.i fun Y => ?_))
          refine lp_next (⟨i + 1, A1, A2, A3, A4, n1, n2, n3, n4, M1, M2, M3, M4, nextL q 4⟩ : Sys1) ⟨h, ⟨w1, w2, w3, w4, h1, h2, h3, h4, hL.weaken (by dsimp only; omega)⟩, e1, e2, e3, e4, ?_, ?_, ?_, ?_⟩ (by dsimp only; omega)
          all_goals (dsimp only; omega)
  · have h : i = ks.length := by rw [decide_eq_false_iff_not, List.length_map] at hc; omega
    subst h
    clear hc b1 b3 b4 hi40 hi
    have f1 : AV.frzs M1 = w1.map iA := by rw [h1]; exact Frzs.h
    have f2 : AV.frzs M2 = w2.map iA := by rw [h2]; exact Frzs.h
    have f3 : AV.frzs M3 = w3.map iA := by rw [h3]; exact Frzs.h
    have f4 : AV.frzs M4 = w4.map iA := by rw [h4]; exact Frzs.h
    (repeat refine WF ?_); refine AWP.region ?_; (repeat (first | refine WO ?_ | refine All.i fun X => ?_ | refine AllY.i fun Y => ?_)); refine AOps.nil ?_; (repeat refine WN ?_)
    refine AWP.joinS (fun b : List Int × List Int × List Int × List Int => SysL b.1 b.2.1 b.2.2.1 b.2.2.2 ks.length ∧ b.1 ≠ []) (fun b => ⟨[(3, .fp [kindsA false false ks]), (4, .fp [.ptr G 0 0]), (6, .ptr R 0 0), (7, .ptr X 0 0)], (A5, .row 82 11 []) :: (X, .row 31 7 [.agg [sA (sysName n), intsA false b.1, intsA false b.2.1, intsA false b.2.2.1, intsA false b.2.2.2, .sl A5 0 0, .lst false 104 2 []]]) :: (R, sys0) :: (G, streamO q) :: Sf⟩) ?_ ?_
    · refine AWP.cond rfl (fun hd => ?_) (fun hd => ?_)
      · have hd : n1 = 0 := by rw [decide_eq_true_eq] at hd; omega
        have hw1 : w1 = [] := List.eq_nil_of_length_eq_zero (by have := congrArg List.length h1; rw [List.length_map] at this; omega)
        have hn2 : n2 = w2.length := by rw [e2, h2, List.length_map]
        have hw2 : w2.length ≤ 1099511627776 := by omega
        have hz := deleteFuncI_sp A2 w2 70 [] (fun x => decide (x = 0)) rfl (by omega) (fun x _ => isZero_ps x)
        subst hn2 h2 hw1
        refine AWP.rs fun Y2 => ?_
        (repeat refine WF ?_); refine AWP.region ?_; (repeat (first | (refine AOps.gN ?_; first | (refine AOps.g_callf ?_; first | refine AOps.z2 (h := hz.used) (hT := .ls (Y := Y2)) (k := ?_))) | refine WO ?_ | refine All.i fun X => ?_ | refine AllY.i fun Y => ?_))
        have g2 : AV.frzs ((w2.filter fun x => !decide (x = 0)).map iA) = (w2.filter fun x => !decide (x = 0)).map iA := Frzs.h
        refine AOps.iceX Y2 ((w2.filter fun x => !decide (x = 0)).map iA) g2 (.cons (.agg (.cons .same (.cons .same (.cons (.base .sl) (.cons .same (.cons .same (.cons .same (.cons .same .nil)))))))) .nil) ?_
        refine AOps.iceX A3 (w3.map iA) f3 (.cons (.agg (.cons .same (.cons .same (.cons .same (.cons (.base .sl) (.cons .same (.cons .same (.cons .same .nil)))))))) .nil) ?_
        (repeat (first | refine WK ?_ | refine All.i fun X => ?_ | refine AllY.i fun Y => ?_))
        exact jn ([0], w2.filter fun x => !decide (x = 0), w3, [0]) ⟨hL.zero (by omega), by simp⟩
      · have hd : n1 ≠ 0 := by rw [decide_eq_false_iff_not] at hd; omega
        have hw1 : w1 ≠ [] := by rintro rfl; rw [h1] at e1; exact hd e1
        refine AWP.iceX A1 (w1.map iA) f1 (.cons (.agg (.cons .same (.cons (.base .sl) (.cons .same (.cons .same (.cons .same (.cons .same (.cons .same .nil)))))))) .nil) ?_
        refine AWP.iceX A2 (w2.map iA) f2 (.cons (.agg (.cons .same (.cons .same (.cons (.base .sl) (.cons .same (.cons .same (.cons .same (.cons .same .nil)))))))) .nil) ?_
        refine AWP.iceX A3 (w3.map iA) f3 (.cons (.agg (.cons .same (.cons .same (.cons .same (.cons (.base .sl) (.cons .same (.cons .same (.cons .same .nil)))))))) .nil) ?_
        refine AWP.iceX A4 (w4.map iA) f4 (.cons (.agg (.cons .same (.cons .same (.cons .same (.cons .same (.cons (.base .sl) (.cons .same (.cons .same .nil)))))))) .nil) ?_
        (repeat (first | refine WK ?_ | refine All.i fun X => ?_ | refine AllY.i fun Y => ?_))
        exact jn (w1, w2, w3, w4) ⟨hL, hw1⟩
    · rintro ⟨w1, w2, w3, w4⟩ ⟨hL, hne⟩
      dsimp only at hL hne ⊢
      have hr3 : ∀ x ∈ w3, 0 ≤ x ∧ x < ks.length := fun x hx => hL.r1 x (hL.s3 x hx)
      have hr4 : ∀ x ∈ w4, 0 ≤ x ∧ x < ks.length := fun x hx => hL.r1 x (hL.s4 x hx)
      have hl3 := pw_len hL.o3 hr3 (by omega)
      have hl4 := pw_len hL.o4 hr4 (by omega)
      have hfl : [w3, w4].flatten = w3 ++ w4 := by simp
      have hcc := concatI_ps [w3, w4] (by simp) (by rw [hfl, List.length_append]; omega)
      rw [hfl] at hcc
      have hsr : ∀ x ∈ w3 ++ w4, 0 ≤ x ∧ x < ks.length := fun x hx => by rcases List.mem_append.1 hx with h | h; exact hr3 x h; exact hr4 x h
      have hsn : w3 ++ w4 ≠ [] := by
        intro e0
        obtain ⟨x, hx⟩ := List.exists_mem_of_ne_nil _ hne
        rcases hL.all x hx with h | h
        · have : x ∈ w3 ++ w4 := by simp [h]
          rw [e0] at this; cases this
        · have : x ∈ w3 ++ w4 := by simp [h]
          rw [e0] at this; cases this
      have hap := fun l => arg_po G ks (w3 ++ w4) l hk hsn hsr (by rw [List.length_append]; omega)
      have hao := fun l => argOf_ok ks (w3 ++ w4) l hk hf hsn hsr
      have hw4 : 0 ≤ nextV q 6 ∧ nextV q 6 < 6 := nextV_range q (by decide)
      obtain ⟨c, hc⟩ : ∃ c : Nat, nextV q 6 = c := ⟨(nextV q 6).toNat, by omega⟩
      obtain ⟨q0, hq0⟩ : ∃ q0, nextL q 6 = q0 := ⟨_, rfl⟩
      (repeat refine WF ?_); refine AWP.region ?_; (repeat (first | (refine AOps.gN ?_; first | (refine AOps.g_callf ?_; first | refine AOps.c1 (h := (hcc ..)) (k := ?_))) | refine WO ?_ | refine All.i fun V => ?_ | refine AllY.i fun Y => ?_)); refine AOps.nil ?_; (repeat refine WN ?_)
      refine AWP.iceP [9] (X := V) (by exact At.f) ?_ (by intro d hd; simp only [List.mem_singleton] at hd; subst hd; rfl)
      (repeat refine WF ?_); refine AWP.region ?_; (repeat (first | refine WO ?_ | refine All.i fun X => ?_ | refine AllY.i fun Y => ?_)); refine AOps.nil ?_; (repeat refine WN ?_)
      (repeat refine WF ?_); refine AWP.region ?_; (repeat (first | (refine AOps.gN ?_; first | (refine AOps.g_callf ?_; first | refine AOps.o2 (h := (next_po G _ _ (by decide))) (k := ?_))) | refine WO ?_ | refine All.i fun X => ?_ | refine AllY.i fun Y => ?_)); refine AOps.nil ?_; (repeat refine WN ?_)
      rw [hc, hq0]
      (repeat first | refine AOps.nil ?_ | refine WF ?_)
      refine AWP.lp (fun b : Sys2 => ⟨[(3, .fp [kindsA false false ks]), (4, .fp [.ptr G 0 0]), (6, .ptr R 0 0), (7, .ptr X 0 0), (10, .fn 71 [.fp [.ptr G 0 0], .fp [intsA false (w3 ++ w4)], .fp [kindsA false false ks]]), (82, iA c), (83, iA b.j)], (b.A, .row 82 11 b.M) :: (X, .row 31 7 [.agg [sA (sysName n), intsA false w1, intsA false w2, intsA false w3, intsA false w4, .sl b.A 0 b.m, .lst false 104 2 (b.sp.map (compA false))]]) :: (R, sys0) :: (G, streamO b.q) :: Sf⟩) (Sys2.OK ks w3 w4 c) (fun b => c - b.j) ⟨0, A5, 0, [], [], q0⟩ ⟨Nat.zero_le _, ⟨[], rfl, by simp⟩, rfl, rfl, .inl rfl⟩ ?_
      rintro ⟨j, A, m, M, sp, q⟩ ⟨hj, ⟨ops, hM, hO⟩, hm, hmj, hsp⟩
      dsimp only at hj hM hm hmj hsp ⊢
      (repeat (first | refine WK ?_ | refine All.i fun X => ?_ | refine AllY.i fun Y => ?_))
      refine AWP.cond rfl (fun hd => ?_) (fun hd => ?_)
      · have hjc : j < c := by rw [decide_eq_true_eq] at hd; omega
        have hd13 := nextV_range q (n := 13) (by decide)
        obtain ⟨d, hdd⟩ : ∃ d, nextV q 13 = d := ⟨_, rfl⟩
        obtain ⟨q1, hq1⟩ : ∃ q1, nextL q 13 = q1 := ⟨_, rfl⟩
        have ha := hao q1
        have hap1 := hap q1
        obtain ⟨a, haa⟩ : ∃ a, (argOf ks (w3 ++ w4) q1).1 = a := ⟨_, rfl⟩
        obtain ⟨q2, hq2⟩ : ∃ q2, (argOf ks (w3 ++ w4) q1).2 = q2 := ⟨_, rfl⟩
        rw [haa] at ha hap1
        rw [hq2] at hap1
        have hn13 := next_po G q 13 (by decide)
        rw [hdd, hq1] at hn13
        rw [hdd] at hd13
        (repeat refine WF ?_); refine AWP.region ?_; (repeat (first | (refine AOps.gN ?_; first | (refine AOps.g_callf ?_; first | refine AOps.o2 (h := (hn13 ..)) (k := ?_)) | (refine AOps.g_callv ?_; first | refine AOps.q0 (h := (hap1 ..)) (k := ?_))) | refine WO ?_ | refine All.i fun O => ?_ | refine AllY.i fun Y => ?_)); refine AOps.nil ?_; (repeat refine WN ?_)
        (repeat refine WF ?_); refine AWP.region ?_; (repeat (first | refine WO ?_ | refine All.i fun X => ?_ | refine AllY.i fun Y => ?_)); refine AOps.nil ?_; (repeat refine WN ?_)
        refine AWP.joinS (fun b : Arg × List Int => if twoOp d then ArgOK ks (w3 ++ w4) b.1 else b.1 = arg0) (fun b => ⟨[(3, .fp [kindsA false false ks]), (4, .fp [.ptr G 0 0]), (6, .ptr R 0 0), (7, .ptr X 0 0), (10, .fn 71 [.fp [.ptr G 0 0], .fp [intsA false (w3 ++ w4)], .fp [kindsA false false ks]]), (11, .ptr O 0 0), (82, iA c), (83, iA j)], (O, .row 82 11 [opA ⟨d, ⟨0, 0⟩, a, b.1⟩]) :: (A, .row 82 11 M) :: (X, .row 31 7 [.agg [sA (sysName n), intsA false w1, intsA false w2, intsA false w3, intsA false w4, .sl A 0 m, .lst false 104 2 (sp.map (compA false))]]) :: (R, sys0) :: (G, streamO b.2) :: Sf⟩) ?_ ?_
        · refine AWP.cond rfl (fun hg => ?_) (fun hg => ?_)
          · have htw : twoOp d = true := by
              unfold twoOp
              simp only [Bool.or_eq_true, Bool.and_eq_true, decide_eq_true_eq] at hg ⊢
              omega
            have hap2 := hap q2
            have ha2 := hao q2
            (repeat (first | (refine AOps.gN ?_; first | (refine AOps.g_callv ?_; first | refine AOps.q0 (h := (hap2 ..)) (k := ?_))) | refine WK ?_ | refine All.i fun X => ?_ | refine AllY.i fun Y => ?_))
            exact jn ((argOf ks (w3 ++ w4) q2).1, (argOf ks (w3 ++ w4) q2).2) (by rw [if_pos htw]; exact ha2)
          · have htw : twoOp d = false := by
              unfold twoOp
              simp only [Bool.or_eq_false_iff, Bool.and_eq_false_iff, decide_eq_false_iff_not] at hg ⊢
              omega
            (repeat (first | refine WK ?_ | refine All.i fun X => ?_ | refine AllY.i fun Y => ?_))
            exact jn (arg0, q2) (by rw [htw]; rfl)
        · rintro ⟨b, q3⟩ hb
          dsimp only at hb ⊢
          refine AWP.join (fun b : Op × List Comp × List Int => OpOK ks w3 w4 b.1 ∧ (b.2.1 = [] ∨ ∃ q, b.2.1 = (genComps ks q).1)) (fun b => ⟨[(3, .fp [kindsA false false ks]), (4, .fp [.ptr G 0 0]), (6, .ptr R 0 0), (7, .ptr X 0 0), (10, .fn 71 [.fp [.ptr G 0 0], .fp [intsA false (w3 ++ w4)], .fp [kindsA false false ks]]), (11, .ptr O 0 0), (82, iA c), (83, iA j)], (O, .row 82 11 [opA b.1]) :: (A, .row 82 11 M) :: (X, .row 31 7 [.agg [sA (sysName n), intsA false w1, intsA false w2, intsA false w3, intsA false w4, .sl A 0 m, .lst false 104 2 (b.2.1.map (compA false))]]) :: (R, sys0) :: (G, streamO b.2.2) :: Sf⟩) ?_ ?_
          · (repeat (first | refine WK ?_ | refine All.i fun X => ?_ | refine AllY.i fun Y => ?_))
            refine AWP.cond rfl (fun hg => ?_) (fun hg => ?_)
            · have hap3 := hap q3
              have ha3 := hao q3
              (repeat refine WF ?_); refine AWP.region_run (by kernel_rfl) (by kernel_rfl) ?_; (repeat (first | (refine RGo.gN ?_; first | (refine RGo.g_callv ?_; first | refine RGo.q0 (h := (hap3 ..)) (k := ?_))) | (refine RGo.gQ ?_; first | (refine RGo.g_callv ?_; first | refine RGo.q0 (h := (hap3 ..)) (k := ?_))) | refine RK ?_ | refine RGo.nil (by kernel_rfl) ?_))
              (repeat (first | refine WK ?_ | refine All.i fun X => ?_ | refine AllY.i fun Y => ?_))
              exact jn (⟨12, ⟨0, 0⟩, a, (argOf ks (w3 ++ w4) q3).1⟩, sp, (argOf ks (w3 ++ w4) q3).2) ⟨⟨by dsimp only; omega, by dsimp only; omega, ha, ha3, fun h => by dsimp only at h; omega, fun h => by dsimp only at h; omega, fun _ => rfl⟩, hsp⟩
            · have hg' : ¬ (d ≤ 7 ∧ w4.length = 0) := by
                simp only [Bool.and_eq_false_iff, decide_eq_false_iff_not, List.length_map] at hg
                omega
              (repeat (first | refine WK ?_ | refine All.i fun X => ?_ | refine AllY.i fun Y => ?_))
              refine AWP.cond rfl (fun hs => ?_) (fun hs => ?_)
              · have hs : d ≤ 7 := by simpa using hs
                have hw0 : 0 < w4.length := by omega
                have hv := nextV_range q3 (n := w4.length) (by omega)
                obtain ⟨i, hi⟩ : ∃ i : Nat, nextV q3 w4.length = i := ⟨(nextV q3 w4.length).toNat, by omega⟩
                have hil : i < w4.length := by omega
                obtain ⟨k, hk4⟩ : ∃ k : Nat, w4[i] = k := ⟨w4[i].toNat, by have := hr4 _ (List.getElem_mem hil); omega⟩
                have hkl : k < ks.length := by have := hr4 _ (List.getElem_mem hil); omega
                have hkm : (k : Int) ∈ w4 := by rw [← hk4]; exact List.getElem_mem hil
                have hkf := (hk.2 _ (List.getElem_mem hkl)).1
                have hfd := flds_at (ks := ks) (i := k) rfl hkl
                have hfp : 0 < ks[k].fields.length := List.length_pos_iff.2 (hf _ (List.getElem_mem hkl))
                have hon : PO Tryz.prog 32 [.ptr G 0 0, iA (w4.map iA).length] G (streamO q3) (iA i) (streamO (nextL q3 w4.length)) := by
                  have := next_po G q3 w4.length (by omega)
                  rw [hi] at this
                  rw [List.length_map]
                  exact this
                have hon2 := next_po G (nextL q3 w4.length) (ks[k].fields.map fieldA).length (by rw [List.length_map]; omega)
                have hv2 := nextV_range (nextL q3 w4.length) (n := (ks[k].fields.map fieldA).length) (by rw [List.length_map]; omega)
                (repeat refine WF ?_); refine AWP.region_run (by kernel_rfl) (by kernel_rfl) ?_; (repeat (first | (refine RGo.gN ?_; first | (refine RGo.g_callf ?_; first | refine RGo.o2 (h := (hon ..)) (k := ?_))) | (refine RGo.gQ ?_; first | (refine RGo.g_callf ?_; first | refine RGo.o2 (h := (hon ..)) (k := ?_))) | refine RK ?_ | refine RGo.nil (by kernel_rfl) ?_))
                rw [hk4]
                (repeat refine WF ?_); refine AWP.region_run (by kernel_rfl) (by kernel_rfl) ?_; (repeat (first | (refine RGo.gN ?_; first | (refine RGo.g_callf ?_; first | refine RGo.o2 (h := (hon2 ..)) (k := ?_))) | (refine RGo.gQ ?_; first | (refine RGo.g_callf ?_; first | refine RGo.o2 (h := (hon2 ..)) (k := ?_))) | refine RK ?_ | refine RGo.nil (by kernel_rfl) ?_))
                (repeat (first | refine WK ?_ | refine All.i fun X => ?_ | refine AllY.i fun Y => ?_))
                refine jn (⟨d, ⟨k, nextV (nextL q3 w4.length) (ks[k].fields.map fieldA).length⟩, a, b⟩, sp, _) ⟨⟨by dsimp only; omega, by dsimp only; omega, ha, hb, fun _ => ⟨⟨by dsimp only; omega, by dsimp only; omega, hv2.1, by dsimp only; rw [hfd]; exact hv2.2⟩, hkm⟩, fun h => by dsimp only at h; omega, fun h => by dsimp only at h; omega⟩, hsp⟩
              · have hs : ¬ d ≤ 7 := by simpa using hs
                (repeat (first | refine WK ?_ | refine All.i fun X => ?_ | refine AllY.i fun Y => ?_))
                refine AWP.cond rfl (fun hu => ?_) (fun hu => ?_)
                · have hu : d = 8 ∨ d = 9 := by simpa using hu
                  have hon := next_po G q3 (ks.map (kindA false)).length (by rw [List.length_map]; omega)
                  have hv := nextV_range q3 (n := (ks.map (kindA false)).length) (by rw [List.length_map]; omega)
                  have hv2 := hv.2
                  rw [List.length_map] at hv2
                  (repeat (first | (refine AOps.gN ?_; first | (refine AOps.g_callf ?_; first | refine AOps.o2 (h := (hon ..)) (k := ?_))) | refine WK ?_ | refine All.i fun X => ?_ | refine AllY.i fun Y => ?_))
                  refine jn (⟨d, ⟨nextV q3 (ks.map (kindA false)).length, 0⟩, a, b⟩, sp, _) ⟨⟨by dsimp only; omega, by dsimp only; omega, ha, hb, fun h => by dsimp only at h; omega, fun _ => ⟨hv.1, by dsimp only; rw [List.length_map]; exact hv2, rfl⟩, fun h => by dsimp only at h; omega⟩, hsp⟩
                · have hu : ¬ (d = 8 ∨ d = 9) := by simpa using hu
                  (repeat (first | refine WK ?_ | refine All.i fun X => ?_ | refine AllY.i fun Y => ?_))
                  refine AWP.cond rfl (fun hx => ?_) (fun hx => ?_)
                  · have hcp := comps_po G ks q3 hk
                    (repeat (first | (refine AOps.gN ?_; first | (refine AOps.g_callf ?_; first | refine AOps.o2 (h := (hcp ..)) (k := ?_))) | refine WK ?_ | refine All.i fun X => ?_ | refine AllY.i fun Y => ?_))
                    refine jn (⟨d, ⟨0, 0⟩, a, b⟩, (genComps ks q3).1, (genComps ks q3).2) ⟨⟨by dsimp only; omega, by dsimp only; omega, ha, hb, fun h => by dsimp only at h; omega, fun h => by dsimp only at h; omega, fun _ => rfl⟩, .inr ⟨q3, rfl⟩⟩
                  · (repeat (first | refine WK ?_ | refine All.i fun X => ?_ | refine AllY.i fun Y => ?_))
                    refine jn (⟨d, ⟨0, 0⟩, a, b⟩, sp, q3) ⟨⟨by dsimp only; omega, by dsimp only; omega, ha, hb, fun h => by dsimp only at h; omega, fun h => by dsimp only at h; omega, fun _ => rfl⟩, hsp⟩
          · rintro ⟨o, sp', q4⟩ ⟨ho, hsp'⟩
            dsimp only at ho hsp' ⊢
            have hm1 : m + 1 ≤ 1099511627776 := by omega
            (repeat (first | (refine AOps.gN ?_; first | (refine AOps.g_lit ?_; refine AOps.goL (opA o) ?_)) | refine WK ?_ | refine All.i fun X => ?_ | refine AllY.i fun Y => ?_))
            refine lp_next (⟨j + 1, Y, m + 1, M ++ [opA o], sp', q4⟩ : Sys2) ⟨hjc, ⟨ops ++ [o], by dsimp only; rw [hM, List.map_append]; rfl, fun o' ho' => ?_⟩, by dsimp only; rw [List.length_append, hm]; rfl, by dsimp only; omega, hsp'⟩ (by dsimp only; omega)
            rcases List.mem_append.1 ho' with h | h
            · exact hO o' h
            · rw [List.mem_singleton.1 h]; exact ho
      · have hjc : j = c := by rw [decide_eq_false_iff_not] at hd; omega
        subst hjc
        have fM : AV.frzs M = ops.map opA := by rw [hM]; exact Frzs.h
        (repeat first | refine AOps.nil ?_ | refine WF ?_)
        refine AWP.iceX A (ops.map opA) fM (.cons (.agg (.cons .same (.cons .same (.cons .same (.cons .same (.cons .same (.cons (.base .sl) (.cons .same .nil)))))))) .nil) ?_
        (repeat (first | refine WK ?_ | refine All.i fun X => ?_ | refine AllY.i fun Y => ?_))
        (refine AWP.ret ?_; (repeat (first | refine inB_r ?_ | refine andThen_r ?_)); refine retQ_r ?_)
        have hlen : ops.length ≤ 5 := by rw [hM, List.length_map] at hm; omega
        exact ⟨[sysA false ⟨sysName n, w1, w2, w3, w4, ops, sp⟩], [sysA false ⟨sysName n, w1, w2, w3, w4, ops, sp⟩], _, [(G, streamO q)], .cons (.cell rfl (by exact At.f) TAg.h TSize.h rfl rfl) rfl .nil, CVs_id _ _, by exact Sub.f, (⟨sysName n, w1, w2, w3, w4, ops, sp⟩, q), ⟨rfl, hL, hne, hlen, hO, hsp⟩, rfl, rfl⟩
end Go.Proofs.YtkoehhpfjpdkcaaGreat

namespace Go.Proofs.YtkoehhpfjpdkcaaGreat
set_option linter.unusedVariables false
end Go.Proofs.YtkoehhpfjpdkcaaGreat

namespace Go.Proofs.YtkoehhpfjpdkcaaGreat
set_option linter.unusedVariables false
theorem tourSystem_e (ks : List Kind) (l : List Int) (hk : KindsOK ks) (hf : ∀ k ∈ ks, k.fields ≠ []) (h0 : ks ≠ []) : Spec Tryz.prog 21 [kindsA false false ks, intsA false l] [] fun r S' => ∃ b : Sys, SysOK ks 0 b ∧ r = sysA false b ∧ S' = [] := by
  refine Spec.of (nt := 10) (res := [.cell 4 31]) Tryz.func21 rfl (by kernel_rfl) rfl rfl rfl fun Sf => ?_
  (repeat refine WF ?_); refine AWP.region ?_; (repeat (first | refine WO ?_ | refine All.i fun R => ?_ | refine AllY.i fun Y => ?_)); refine AOps.nil ?_; (repeat refine WN ?_)
  (repeat first | refine AOps.nil ?_ | refine WF ?_)
  refine AWP.region ?_
  refine WO ?_
  refine WO ?_
  refine WO ?_
  refine AOps.rs fun G => AOps.s (W.box rfl .here rfl) rfl ?_
  refine AOps.eo3 (h := system_sp G ks l 0 hk hf h0 (by omega)) fun b hb => ?_
  (repeat (first | refine WO ?_ | refine All.i fun X => ?_ | refine AllY.i fun Y => ?_))
  (repeat first | refine AOps.nil ?_ | refine WF ?_)
  (refine AWP.ret ?_; (repeat (first | refine inB_r ?_ | refine andThen_r ?_)); refine retQ_r ?_)
  exact Ends.sp [sysA false b.1] [] ⟨b.1, hb, rfl, rfl⟩
end Go.Proofs.YtkoehhpfjpdkcaaGreat

namespace Go.Proofs.YtkoehhpfjpdkcaaGreat
set_option linter.unusedVariables false
theorem made_e (l m : List Int) (hk : KindsOK (genWorld l).kinds) (hf : ∀ k ∈ (genWorld l).kinds, k.fields ≠ []) (h0 : (genWorld l).kinds ≠ []) (b0 : Sys) (hb0 : SysOK (genWorld l).kinds 0 b0) : Spec Tryz.prog 6 [intsA false l, intsA false m] [] fun r S' => ∃ b : Sys, SysOK (genWorld l).kinds 0 b ∧ r = .tup [wdA false (genWorld l), sysA false b] ∧ S' = [] := by
  have hw := world_ps l
  have hs := tourSystem_e (genWorld l).kinds m hk hf h0
  refine Spec.of (nt := 14) (res := [.cell 4 27, .cell 5 31]) Tryz.func6 rfl (by kernel_rfl) rfl rfl rfl fun Sf => ?_
  (repeat refine WF ?_); refine AWP.region ?_; (repeat (first | refine WO ?_ | refine All.i fun X => ?_ | refine AllY.i fun Y => ?_)); refine AOps.nil ?_; (repeat refine WN ?_)
  (repeat first | refine AOps.nil ?_ | refine WF ?_)
  (repeat refine WF ?_); refine AWP.region ?_; (repeat (first | (refine AOps.gN ?_; first | (refine AOps.g_callf ?_; first | refine AOps.c1 (h := (hw ..)) (k := ?_))) | refine WO ?_ | refine All.i fun W6 => ?_ | refine AllY.i fun Y => ?_)); refine AOps.nil ?_; (repeat refine WN ?_)
  (repeat first | refine AOps.nil ?_ | refine WF ?_)
  refine AWP.region_runE (by kernel_rfl) (by kernel_rfl) ?_
  refine RGoE.go ?_
  refine RGoE.go ?_
  refine RGoE.go ?_
  refine RGoE.go ?_
  refine RGoE.e2 b0 hb0 hs fun b hb => ?_
  (repeat first | refine RK ?_ | refine RGo.nil (by kernel_rfl) ?_)
  (repeat first | refine AOps.nil ?_ | refine WF ?_)
  (refine AWP.ret ?_; (repeat (first | refine inB_r ?_ | refine andThen_r ?_)); refine retQ_r ?_)
  exact Ends.sp [wdA false (genWorld l), sysA false b] [] ⟨b, hb, rfl, rfl⟩
end Go.Proofs.YtkoehhpfjpdkcaaGreat

namespace Go.Proofs.YtkoehhpfjpdkcaaGreat
set_option linter.unusedVariables false
theorem genWorld_fields (l : List Int) : (genWorld l).kinds ≠ [] ∧ ∀ k ∈ (genWorld l).kinds, k.fields ≠ [] := by
  have hp := genKinds_pos l
  refine ⟨fun e => ?_, ?_⟩
  · have e' : (genKinds l).1 = [] := e
    rw [e'] at hp
    simp at hp
  · show ∀ k ∈ (genKinds l).1, k.fields ≠ []
    rw [genKinds_at]
    intro k hk
    have : ∀ i q, ∀ k ∈ (kAt i q).1, k.fields ≠ [] := by
      intro i q
      induction i with
      | zero => intro k hk; cases hk
      | succ i ih =>
        intro k hk
        rcases List.mem_append.1 hk with hk | hk
        · exact ih k hk
        · rw [List.mem_singleton.1 hk]
          show (genFields 0 (1 + nextV (kAt i q).2 3).toNat (nextL (kAt i q).2 3)).1 ≠ []
          have h3 := nextV_range (kAt i q).2 (n := 3) (by decide)
          rw [genFields_at]
          intro e
          have := congrArg List.length e
          rw [fAt_len] at this
          simp at this
          omega
    exact this _ _ k hk
/-- A system that is a result of tourmake.System for every list of kinds. -/
def sysD : Sys := ⟨sysName 0, [0], [], [], [0], [], []⟩
theorem sysD_ok {ks : List Kind} (h : ks ≠ []) : SysOK ks 0 sysD := by
  have h1 := List.length_pos_iff.2 h
  refine ⟨rfl, ⟨by simp [sysD], by simp [sysD], by simp [sysD], by simp [sysD], ?_, by simp [sysD], by simp [sysD], by simp [sysD], by simp [sysD], by simp [sysD]⟩, by simp [sysD], by simp [sysD], by simp [sysD], .inl rfl⟩
  intro x hx
  simp only [sysD, List.mem_singleton] at hx
  subst hx
  omega
theorem madeW_e (l m : List Int) : Spec Tryz.prog 6 [intsA false l, intsA false m] [] fun r S' => ∃ b : Sys, SysOK (genWorld l).kinds 0 b ∧ r = .tup [wdA false (genWorld l), sysA false b] ∧ S' = [] :=
  made_e l m (genKinds_rng l) (genWorld_fields l).2 (genWorld_fields l).1 sysD (sysD_ok (genWorld_fields l).1)
/-- What is wanted of a world and a system for a run. -/
structure RunG (w : Wd) (s : Sys) : Prop where
  wl : WdL w
  ok : WdOK w
  k12 : w.kinds.length ≤ 12
  sg : SysG w.kinds s
  n : (allOf w.items s.wth s.wout).length * s.ops.length ≤ 1099511627775
theorem runG_of (l : List Int) {s : Sys} (hs : SysOK (genWorld l).kinds 0 s) : RunG (genWorld l) s := by
  have hok := genWorld_ok l
  have hk := genWorld_ks l
  have hsm := genWorld_small l
  refine ⟨hok.wl, hok, by omega, sysG_of hok.ks (genKinds_good l) (by omega) hs, ?_⟩
  have h1 := allOf_len (genWorld l).items s.wth s.wout
  have h2 := hs.len
  exact Nat.le_trans (Nat.mul_le_mul (Nat.le_trans h1 hsm.1) h2) (by decide)
theorem RunG.run {w : Wd} {s : Sys} (h : RunG w s) (index seed tick : Int) : PS Tryz.prog 7 [wdA false w, sysA false s, iA index, iA seed, iA tick] (.tup [wdH ⟨w.kinds, w.gens, (runM w s index seed tick).1⟩, .lst false 58 5 ((runM w s index seed tick).2.1.map cmdA), .lst false 54 4 ((runM w s index seed tick).2.2.map evtA), iA 0]) :=
  run_ps w s index seed tick h.wl ((wdErr_iff w).2 h.ok) h.k12 h.sg h.ok.ks (fun it hit => (h.ok.it it hit).2.2.2.2) h.n
theorem RunG.okR {w : Wd} {s : Sys} (h : RunG w s) (index seed tick : Int) : WdOK ⟨w.kinds, w.gens, (runM w s index seed tick).1⟩ := (wdErr_iff _).1 (runM_ok ((wdErr_iff w).2 h.ok) h.sg)
end Go.Proofs.YtkoehhpfjpdkcaaGreat

namespace Go.Proofs.YtkoehhpfjpdkcaaGreat
set_option linter.unusedVariables false
theorem doM_app (ks : List Kind) (s : Sys) (index : Int) (e : Ent) (o : Op) (c : List Comp) (r : UInt64 × UInt64) (cm : List Cmd) (ev : List Evt) :
    doM ks s index e o ⟨c, r, cm, ev⟩ = ⟨(doM ks s index e o ⟨c, r, [], []⟩).comps, (doM ks s index e o ⟨c, r, [], []⟩).r, cm ++ (doM ks s index e o ⟨c, r, [], []⟩).cmds, ev ++ (doM ks s index e o ⟨c, r, [], []⟩).evs⟩ := by
  unfold doM
  dsimp only
  split
  · simp
  · split
    · simp
    · split <;> simp
theorem opsM_app (ks : List Kind) (s : Sys) (index : Int) (e : Ent) : ∀ (os : List Op) (c : List Comp) (r : UInt64 × UInt64) (cm : List Cmd) (ev : List Evt),
    opsM ks s index e os ⟨c, r, cm, ev⟩ = ⟨(opsM ks s index e os ⟨c, r, [], []⟩).comps, (opsM ks s index e os ⟨c, r, [], []⟩).r, cm ++ (opsM ks s index e os ⟨c, r, [], []⟩).cmds, ev ++ (opsM ks s index e os ⟨c, r, [], []⟩).evs⟩
  | [], c, r, cm, ev => by simp [opsM]
  | o :: os, c, r, cm, ev => by
    have h1 : opsM ks s index e (o :: os) ⟨c, r, cm, ev⟩ = opsM ks s index e os (doM ks s index e o ⟨c, r, cm, ev⟩) := rfl
    have h2 : opsM ks s index e (o :: os) ⟨c, r, [], []⟩ = opsM ks s index e os (doM ks s index e o ⟨c, r, [], []⟩) := rfl
    rw [h1, h2, doM_app]
    obtain ⟨⟨c', r', cm', ev'⟩, hd⟩ : ∃ x, doM ks s index e o ⟨c, r, [], []⟩ = x := ⟨_, rfl⟩
    rw [hd]
    dsimp only
    rw [opsM_app ks s index e os c' r' (cm ++ cm'), opsM_app ks s index e os c' r' cm']
    simp
theorem doM_ents (ks : List Kind) (s : Sys) (index : Int) (e : Ent) (o : Op) (c : List Comp) (r : UInt64 × UInt64) : (∀ x ∈ (doM ks s index e o ⟨c, r, [], []⟩).cmds, x.act = 3 ∨ x.ent = e) ∧ ∀ x ∈ (doM ks s index e o ⟨c, r, [], []⟩).evs, x.ent = e := by
  unfold doM
  dsimp only
  split
  · simp
  · split
    · simp
    · split
      · simp
      · refine ⟨fun x hx => ?_, by simp⟩
        simp only [List.nil_append, List.mem_singleton] at hx
        subst hx
        split
        · exact .inr rfl
        · split
          · exact .inr rfl
          · split
            · exact .inr rfl
            · exact .inl rfl
theorem opsM_ents (ks : List Kind) (s : Sys) (index : Int) (e : Ent) : ∀ (os : List Op) (c : List Comp) (r : UInt64 × UInt64), (∀ x ∈ (opsM ks s index e os ⟨c, r, [], []⟩).cmds, x.act = 3 ∨ x.ent = e) ∧ ∀ x ∈ (opsM ks s index e os ⟨c, r, [], []⟩).evs, x.ent = e
  | [], c, r => by simp [opsM]
  | o :: os, c, r => by
    have h2 : opsM ks s index e (o :: os) ⟨c, r, [], []⟩ = opsM ks s index e os (doM ks s index e o ⟨c, r, [], []⟩) := rfl
    obtain ⟨d1, d2⟩ := doM_ents ks s index e o c r
    rw [h2]
    obtain ⟨⟨c', r', cm', ev'⟩, hd⟩ : ∃ x, doM ks s index e o ⟨c, r, [], []⟩ = x := ⟨_, rfl⟩
    rw [hd] at d1 d2 ⊢
    rw [opsM_app]
    obtain ⟨i1, i2⟩ := opsM_ents ks s index e os c' r'
    refine ⟨fun x hx => ?_, fun x hx => ?_⟩
    · rcases List.mem_append.1 hx with hx | hx
      · exact d1 x hx
      · exact i1 x hx
    · rcases List.mem_append.1 hx with hx | hx
      · exact d2 x hx
      · exact i2 x hx
/-- What a system does with one item: the components, the commands and the events. -/
abbrev oneM (ks : List Kind) (s : Sys) (index seed tick : Int) (x : Item) : Rn := entM ks s index seed tick x [] []
theorem entM_app (ks : List Kind) (s : Sys) (index seed tick : Int) (x : Item) (cm : List Cmd) (ev : List Evt) : (entM ks s index seed tick x cm ev).comps = (oneM ks s index seed tick x).comps ∧ (entM ks s index seed tick x cm ev).cmds = cm ++ (oneM ks s index seed tick x).cmds ∧ (entM ks s index seed tick x cm ev).evs = ev ++ (oneM ks s index seed tick x).evs := by
  unfold oneM entM
  rw [opsM_app]
  exact ⟨rfl, rfl, rfl⟩
theorem oneM_ents (ks : List Kind) (s : Sys) (index seed tick : Int) (x : Item) : (∀ c ∈ (oneM ks s index seed tick x).cmds, c.act = 3 ∨ c.ent = x.ent) ∧ ∀ v ∈ (oneM ks s index seed tick x).evs, v.ent = x.ent := opsM_ents ks s index x.ent s.ops _ _
theorem rowsM_parts (ks : List Kind) (s : Sys) (index seed tick : Int) : ∀ (qs : List (Nat × Item)) (b : List Item × List Cmd × List Evt), rowsM ks s index seed tick qs b =
    (qs.foldl (fun its q => its.set q.1 ⟨q.2.ent, (oneM ks s index seed tick q.2).comps⟩) b.1, b.2.1 ++ (qs.map (·.2)).flatMap (fun x => (oneM ks s index seed tick x).cmds), b.2.2 ++ (qs.map (·.2)).flatMap (fun x => (oneM ks s index seed tick x).evs))
  | [], b => by simp [rowsM]
  | q :: qs, b => by
    obtain ⟨h1, h2, h3⟩ := entM_app ks s index seed tick q.2 b.2.1 b.2.2
    show rowsM ks s index seed tick qs (b.1.set q.1 ⟨q.2.ent, (entM ks s index seed tick q.2 b.2.1 b.2.2).comps⟩, (entM ks s index seed tick q.2 b.2.1 b.2.2).cmds, (entM ks s index seed tick q.2 b.2.1 b.2.2).evs) = _
    rw [rowsM_parts ks s index seed tick qs, h1, h2, h3]
    simp
theorem allTo_items (l : List Item) (wth wout : List Int) : ∀ i, i ≤ l.length → (allTo l wth wout i).map (·.2) = (l.take i).filter fun x => matchOf x wth wout
  | 0, _ => by simp [allTo]
  | i + 1, h => by
    have hi : i < l.length := by omega
    rw [List.take_succ_eq_append_getElem hi, List.filter_append, ← allTo_items l wth wout i (by omega)]
    cases hm : matchOf l[i] wth wout with
    | true => rw [allTo_yes hi hm]; simp [hm]
    | false => rw [allTo_no hi hm]; simp [hm]
theorem allOf_items (l : List Item) (wth wout : List Int) : (allOf l wth wout).map (·.2) = l.filter fun x => matchOf x wth wout := by
  unfold allOf
  rw [allTo_items l wth wout _ (Nat.le_refl _), List.take_length]
theorem allTo_in {l : List Item} {wth wout : List Int} {j : Nat} {x : Item} (hj : l[j]? = some x) (hm : matchOf x wth wout = true) : ∀ i, j < i → i ≤ l.length → (j, x) ∈ allTo l wth wout i
  | 0, h, _ => absurd h (Nat.not_lt_zero _)
  | i + 1, h, hi => by
    by_cases e : j = i
    · subst e
      have hl : j < l.length := by omega
      have hx : l[j] = x := by have := List.getElem?_eq_getElem hl; rw [hj] at this; injection this with this; exact this.symm
      rw [allTo_yes hl (by rw [hx]; exact hm), hx]
      simp
    · have := allTo_in hj hm i (by omega) (by omega)
      unfold allTo
      exact List.mem_append_left _ this
theorem fold_get {f : Item → Item} {l0 : List Item} : ∀ (qs : List (Nat × Item)) (its : List Item), (∀ q ∈ qs, l0[q.1]? = some q.2) → its.length = l0.length → ∀ (i : Nat) (x : Item), l0[i]? = some x →
    (qs.foldl (fun its q => its.set q.1 (f q.2)) its)[i]? = if (i, x) ∈ qs then some (f x) else its[i]?
  | [], its, _, _, i, x, _ => by simp
  | q :: qs, its, hq, hl, i, x, hx => by
    have h0 := hq q (by simp)
    rw [List.foldl_cons, fold_get qs _ (fun q' h' => hq q' (by simp [h'])) (by rw [List.length_set]; exact hl) i x hx]
    have hil : i < l0.length := (List.getElem?_eq_some_iff.1 hx).1
    by_cases e : (i, x) ∈ qs
    · rw [if_pos e, if_pos (List.mem_cons_of_mem _ e)]
    · rw [if_neg e]
      by_cases e2 : q.1 = i
      · subst e2
        rw [hx] at h0
        injection h0 with h0
        rw [if_pos (by rw [h0]; simp), List.getElem?_set_self (by omega), h0]
      · rw [if_neg (by
          intro h
          rcases List.mem_cons.1 h with h | h
          · exact e2 (by rw [← h])
          · exact e h), List.getElem?_set_ne e2]
/-- What becomes of an item. -/
def turnI (ks : List Kind) (s : Sys) (index seed tick : Int) (x : Item) : Item := if matchOf x s.wth s.wout then ⟨x.ent, (oneM ks s index seed tick x).comps⟩ else x
theorem runM_at {w : Wd} {s : Sys} {index seed tick : Int} {i : Nat} {x : Item} (h : w.items[i]? = some x) : (runM w s index seed tick).1[i]? = some (turnI w.kinds s index seed tick x) := by
  unfold runM
  rw [rowsM_parts]
  dsimp only
  rw [fold_get (f := fun x => ⟨x.ent, (oneM w.kinds s index seed tick x).comps⟩) (l0 := w.items) (allOf w.items s.wth s.wout) _ (fun q hq => (allTo_at hq).1) rfl i x h]
  unfold turnI
  have hil := (List.getElem?_eq_some_iff.1 h).1
  cases hm : matchOf x s.wth s.wout with
  | true =>
    have hin : (i, x) ∈ allOf w.items s.wth s.wout := allTo_in h hm _ hil (Nat.le_refl _)
    rw [if_pos hin]; rfl
  | false =>
    rw [if_neg fun hq => ?_, h]
    · rfl
    · rw [(allTo_at hq).2] at hm
      cases hm
theorem runM_cmds (w : Wd) (s : Sys) (index seed tick : Int) : (runM w s index seed tick).2.1 = (w.items.filter fun x => matchOf x s.wth s.wout).flatMap fun x => (oneM w.kinds s index seed tick x).cmds := by
  unfold runM
  rw [rowsM_parts, allOf_items]
  rfl
theorem runM_evs (w : Wd) (s : Sys) (index seed tick : Int) : (runM w s index seed tick).2.2 = (w.items.filter fun x => matchOf x s.wth s.wout).flatMap fun x => (oneM w.kinds s index seed tick x).evs := by
  unfold runM
  rw [rowsM_parts, allOf_items]
  rfl
theorem flat_filter {α β : Type} {g : α → List β} {p : β → Bool} {m : α → Bool} : ∀ (l : List α), (∀ y ∈ l, m y = false → (g y).filter p = []) → (l.flatMap g).filter p = ((l.filter m).flatMap g).filter p
  | [], _ => rfl
  | y :: l, h => by
    have ih := flat_filter l fun y' h' => h y' (by simp [h'])
    rw [List.flatMap_cons, List.filter_append, ih]
    cases hm : m y with
    | true => rw [List.filter_cons_of_pos hm, List.flatMap_cons, List.filter_append]
    | false => rw [h y (by simp) hm, List.nil_append, List.filter_cons_of_neg (by simp [hm])]
theorem one_filter {l : List Item} (hs : l.Pairwise fun a b => a.ent.n < b.ent.n) {x : Item} (hx : x ∈ l) : (l.filter fun y => decide (y.ent = x.ent)) = [x] := by
  induction l with
  | nil => cases hx
  | cons y l ih =>
    rw [List.pairwise_cons] at hs
    rcases List.mem_cons.1 hx with rfl | hx
    · rw [List.filter_cons_of_pos (by simp)]
      congr 1
      rw [List.filter_eq_nil_iff]
      intro z hz
      have := hs.1 z hz
      intro h
      have h := of_decide_eq_true h
      rw [h] at this
      omega
    · rw [List.filter_cons_of_neg, ih hs.2 hx]
      have := hs.1 x hx
      intro h
      have h := of_decide_eq_true h
      rw [h] at this
      omega
/-- A world with one item alone. -/
abbrev aloneW (w : Wd) (x : Item) : Wd := ⟨w.kinds, w.gens, [x]⟩
theorem aloneW_ok {w : Wd} (h : WdOK w) {x : Item} (hx : x ∈ w.items) : WdOK (aloneW w x) :=
  ⟨h.ks, h.gl, by have := List.length_pos_of_mem hx; have := h.il; simp only [List.length_cons, List.length_nil]; omega, h.gs, by simp, fun it hit => by
    rw [List.mem_singleton.1 hit]
    exact h.it x hx⟩
theorem alone_items {w : Wd} {s : Sys} {index seed tick : Int} {x : Item} : (runM (aloneW w x) s index seed tick).1 = [turnI w.kinds s index seed tick x] := by
  have h1 := runM_len (w := aloneW w x) (s := s) (index := index) (seed := seed) (tick := tick)
  have h2 := runM_at (w := aloneW w x) (s := s) (index := index) (seed := seed) (tick := tick) (i := 0) (x := x) rfl
  obtain ⟨r, hr⟩ : ∃ r, (runM (aloneW w x) s index seed tick).1 = r := ⟨_, rfl⟩
  rw [hr] at h1 h2 ⊢
  match r, h1, h2 with
  | [y], _, h2 => simp at h2; rw [h2]
theorem alone_evs {w : Wd} {s : Sys} {index seed tick : Int} (h : WdOK w) {x : Item} (hx : x ∈ w.items) : ((runM w s index seed tick).2.2.filter fun v => decide (v.ent = x.ent)) = (runM (aloneW w x) s index seed tick).2.2 := by
  rw [runM_evs, runM_evs]
  rw [flat_filter (m := fun y => decide (y.ent = x.ent)) _ fun y hy hn => ?_]
  · rw [List.filter_filter]
    have e : (w.items.filter fun a => decide (a.ent = x.ent) && matchOf a s.wth s.wout) = ([x].filter fun a => matchOf a s.wth s.wout) := by
      rw [← one_filter h.so hx, List.filter_filter]
      congr 1
      funext a
      exact Bool.and_comm _ _
    rw [e, List.filter_eq_self]
    intro v hv
    obtain ⟨y, hy, hv2⟩ := List.mem_flatMap.1 hv
    have hy := List.mem_singleton.1 (List.mem_filter.1 hy).1
    exact decide_eq_true (((oneM_ents w.kinds s index seed tick y).2 v hv2).trans (by rw [hy]))
  · rw [List.filter_eq_nil_iff]
    intro v hv hd
    have := (oneM_ents w.kinds s index seed tick y).2 v hv
    have h2 := of_decide_eq_true hd
    have h3 := of_decide_eq_false hn
    exact h3 (this.symm.trans h2)
theorem alone_cmds {w : Wd} {s : Sys} {index seed tick : Int} (h : WdOK w) {x : Item} (hx : x ∈ w.items) : ((runM w s index seed tick).2.1.countP fun c => !decide (c.act = 3) && sameE c.ent x.ent) = (runM (aloneW w x) s index seed tick).2.1.countP fun c => !decide (c.act = 3) := by
  rw [List.countP_eq_length_filter, List.countP_eq_length_filter, runM_cmds, runM_cmds]
  rw [flat_filter (m := fun y => decide (y.ent = x.ent)) _ fun y hy hn => ?_]
  · rw [List.filter_filter]
    have e : (w.items.filter fun a => decide (a.ent = x.ent) && matchOf a s.wth s.wout) = ([x].filter fun a => matchOf a s.wth s.wout) := by
      rw [← one_filter h.so hx, List.filter_filter]
      congr 1
      funext a
      exact Bool.and_comm _ _
    rw [e]
    congr 1
    refine List.filter_congr fun c hc => ?_
    obtain ⟨y, hy, hc2⟩ := List.mem_flatMap.1 hc
    have hy := List.mem_singleton.1 (List.mem_filter.1 hy).1
    rw [sameE_dec]
    rcases (oneM_ents w.kinds s index seed tick y).1 c hc2 with h | h <;> simp [h, hy]
  · rw [List.filter_eq_nil_iff]
    intro c hc hd
    have h3 := of_decide_eq_false hn
    rw [sameE_dec] at hd
    simp only [Bool.and_eq_true, Bool.not_eq_true', decide_eq_false_iff_not, decide_eq_true_eq] at hd
    rcases (oneM_ents w.kinds s index seed tick y).1 c hc with h | h
    · exact hd.1 h
    · exact h3 (h.symm.trans hd.2)
end Go.Proofs.YtkoehhpfjpdkcaaGreat

namespace Go.Proofs.YtkoehhpfjpdkcaaGreat
set_option linter.unusedVariables false
def argX : Arg := ⟨true, 0, ⟨0, 0⟩⟩
def olderS : Sys := ⟨[111, 108, 100, 101, 114], [0], [], [], [0], [⟨1, ⟨0, 0⟩, argX, ⟨false, 1, ⟨0, 0⟩⟩⟩, ⟨12, ⟨0, 0⟩, ⟨false, 1, ⟨0, 0⟩⟩, argX⟩], []⟩
theorem older_ps : PS Tryz.prog 20 [] (sysA false olderS) := by
  refine Spec.of (nt := 13) (res := [.cell 0 31]) Tryz.func20 rfl (by kernel_rfl) rfl rfl rfl fun Sf => ?_
  (repeat refine WF ?_); refine AWP.region ?_; (repeat (first | refine WO ?_ | refine All.i fun R => ?_ | refine AllY.i fun Y => ?_)); refine AOps.nil ?_; (repeat refine WN ?_)
  (repeat (first | refine WK ?_ | refine All.i fun X => ?_ | refine AllY.i fun Y => ?_))
  refine AWP.nilIn 3 1 (Y := R) (.cons (.agg (.cons .same (.cons .same (.cons (.base .nil) (.cons (.base .nil) (.cons .same (.cons .same (.cons .same .nil)))))))) .nil) ?_
  refine AWP.nilIn 104 2 (Y := R) (.cons (.agg (.cons .same (.cons .same (.cons .same (.cons .same (.cons .same (.cons .same (.cons (.base .nil) .nil)))))))) .nil) ?_
  (refine AWP.ret ?_; (repeat (first | refine inB_r ?_ | refine andThen_r ?_)); refine retQ_r ?_)
  exact Ends.id (rs := [sysA false olderS]) rfl (.cons (.cell rfl (by exact At.f) TAg.h TSize.h rfl rfl) rfl .nil)
end Go.Proofs.YtkoehhpfjpdkcaaGreat

namespace Go.Proofs.YtkoehhpfjpdkcaaGreat
set_option linter.unusedVariables false
end Go.Proofs.YtkoehhpfjpdkcaaGreat

namespace Go.Proofs.YtkoehhpfjpdkcaaGreat
set_option linter.unusedVariables false
theorem base_wdL : WdL baseWd := by
  refine ⟨⟨by decide, ?_⟩, by decide, ⟨by decide, ?_⟩⟩
  · intro k hk
    rw [List.mem_singleton.1 hk]; decide
  · intro it hit
    rw [List.mem_singleton.1 hit]
    refine ⟨by decide, fun c hc => ?_⟩
    rw [List.mem_singleton.1 hc]; decide
end Go.Proofs.YtkoehhpfjpdkcaaGreat

namespace Go.Proofs.YtkoehhpfjpdkcaaGreat
set_option linter.unusedVariables false
theorem older_opOK : ∀ o ∈ olderS.ops, OpOK baseWd.kinds olderS.reads olderS.writes o := by
  intro o ho
  simp only [olderS, List.mem_cons, List.not_mem_nil, or_false] at ho
  rcases ho with rfl | rfl
  · refine ⟨by decide, by decide, ⟨fun _ => ⟨rfl, by unfold RefOK; decide, by decide⟩, fun e => (by cases e)⟩, ?_, fun _ => ⟨by unfold RefOK; decide, by decide⟩, fun e => ?_, fun e => ?_⟩
    · rw [if_pos (by decide)]
      exact ⟨fun e => (by cases e), fun _ => ⟨by decide, by decide, rfl⟩⟩
    · rcases e with e | e <;> simp at e
    · simp at e
  · refine ⟨by decide, by decide, ⟨fun e => (by cases e), fun _ => ⟨by decide, by decide, rfl⟩⟩, ?_, fun e => ?_, fun e => ?_, fun e => rfl⟩
    · rw [if_pos (by decide)]
      exact ⟨fun _ => ⟨rfl, by unfold RefOK; decide, by decide⟩, fun e => (by cases e)⟩
    · simp at e
    · rcases e with e | e <;> simp at e
theorem older_sysG : SysG baseWd.kinds olderS := by
  refine ⟨by decide, by decide, by decide, by decide, by decide, by decide, by decide, fun o ho => opG_of (older_opOK o ho)⟩
theorem older_run : (runM baseWd olderS 2 0 0).2.2 = [⟨2, ⟨0, 0⟩, 10⟩] ∧ (runM baseWd olderS 2 0 0).1.length = 1 := by
  constructor <;> kernel_rfl
def evt0 : Evt := ⟨2, ⟨0, 0⟩, 10⟩
theorem evtNe (w : World) : (binOp .neq 54 (.agg [Value.int .i64 2, Value.int .i64 0, Value.int .i64 0, Value.int .i64 10].toArray) (.agg [Value.int .i64 2, Value.int .i64 0, Value.int .i64 0, Value.int .i64 10].toArray)).run Tryz.prog w = .ok (.bool false) w := by kernel_rfl
theorem equalE1_ps : PS Tryz.prog 18 [.lst false 54 4 [evtA evt0], .lst false 54 4 [evtA evt0]] (bA true) := by
  refine Spec.of (nt := 26) (res := [.tmp 4]) Tryz.func18 rfl (by kernel_rfl) rfl rfl rfl fun Sf => ?_
  (repeat (first | refine WK ?_ | refine All.i fun X => ?_ | refine AllY.i fun Y => ?_))
  refine AWP.cond_f rfl rfl ?_
  (repeat (first | refine WK ?_ | refine All.i fun X => ?_ | refine AllY.i fun Y => ?_))
  refine AWP.lp (fun i : Nat => ⟨[(0, .lst false 54 4 [evtA evt0]), (1, .lst false 54 4 [evtA evt0]), (12, iA 1), (13, iA i)], Sf⟩) (fun i => i ≤ 1) (fun i => 1 - i) 0 (by omega) ?_
  rintro i hi
  (repeat (first | refine WK ?_ | refine All.i fun X => ?_ | refine AllY.i fun Y => ?_))
  refine AWP.cond rfl (fun hc => ?_) (fun hc => ?_)
  · obtain rfl : i = 0 := by rw [decide_eq_true_eq] at hc; omega
    have hat : [evtA evt0][0]? = some (evtA evt0) := rfl
    (repeat (first | refine WK ?_ | refine All.i fun X => ?_ | refine AllY.i fun Y => ?_))
    (repeat refine WF ?_); refine AWP.region_run (by kernel_rfl) (by kernel_rfl) ?_; (repeat (first | (refine RGo.gN ?_; first | refine RGo.p (W.neP _ _ (by kernel_rfl) evtNe rfl rfl) rfl ?_) | (refine RGo.gQ ?_; first | refine RGo.p (W.neP _ _ (by kernel_rfl) evtNe rfl rfl) rfl ?_) | refine RK ?_ | refine RGo.nil (by kernel_rfl) ?_))
    (repeat (first | refine WK ?_ | refine All.i fun X => ?_ | refine AllY.i fun Y => ?_))
    refine AWP.cond_f rfl rfl ?_
    (repeat (first | refine WK ?_ | refine All.i fun X => ?_ | refine AllY.i fun Y => ?_))
    refine lp_next 1 (by omega)
  · (repeat (first | refine WK ?_ | refine All.i fun X => ?_ | refine AllY.i fun Y => ?_))
    (refine AWP.ret ?_; (repeat (first | refine inB_r ?_ | refine andThen_r ?_)); refine retQ_r ?_); refine Ends.ps ?_
    rfl
set_option maxRecDepth 8000 in
set_option maxHeartbeats 1000000 in
theorem aged_ps : PS Tryz.prog 5 [] (bA true) := by
  have hb := base_ps
  have ho := older_ps
  have hw := base_wdL
  have hr := run_ps baseWd olderS 2 0 0 hw (by decide) (by decide) older_sysG (by decide) (by decide) (by decide)
  obtain ⟨e1, e2⟩ := older_run
  rw [e1] at hr
  obtain ⟨rc, hrc⟩ : ∃ x, (runM baseWd olderS 2 0 0).2.1 = x := ⟨_, rfl⟩
  obtain ⟨ri, hri⟩ : ∃ x, (runM baseWd olderS 2 0 0).1 = x := ⟨_, rfl⟩
  rw [hri] at e2 hr
  rw [hrc] at hr
  have hrm : (ri.map (itemA false)).length = ri.length := List.length_map _
  have hq := equalE1_ps
  refine Spec.of (nt := 27) (res := [.tmp 0]) Tryz.func5 rfl (by kernel_rfl) rfl rfl rfl fun Sf => ?_
  (repeat refine WF ?_); refine AWP.region ?_; (repeat (first | refine WO ?_ | refine All.i fun X => ?_ | refine AllY.i fun Y => ?_)); refine AOps.nil ?_; (repeat refine WN ?_)
  (repeat first | refine AOps.nil ?_ | refine WF ?_)
  (repeat refine WF ?_); refine AWP.region ?_; (repeat (first | (refine AOps.gN ?_; first | (refine AOps.g_callf ?_; first | refine AOps.c0 (h := (hb ..)) (k := ?_) | refine AOps.c0 (h := (ho ..)) (k := ?_) | refine AOps.c5 (h := (hr ..)) (k := ?_))) | refine WO ?_ | refine All.i fun W1 => ?_ | refine AllY.i fun Y => ?_)); refine AOps.nil ?_; (repeat refine WN ?_)
  (repeat first | refine AOps.nil ?_ | refine WF ?_)
  (repeat (first | (refine AOps.gN ?_; first | (refine AOps.g_callf ?_; first | refine AOps.c2 (h := (hq ..)) (k := ?_))) | refine WK ?_ | refine All.i fun X => ?_ | refine AllY.i fun Y => ?_))
  (refine AWP.ret ?_; (repeat (first | refine inB_r ?_ | refine andThen_r ?_)); refine retQ_r ?_); refine Ends.ps ?_
  have hl : ((ri.map (itemA false)).length : Int) = 1 := by omega
  exact congrArg bA (decide_eq_true hl)
end Go.Proofs.YtkoehhpfjpdkcaaGreat

namespace Go.Proofs.YtkoehhpfjpdkcaaGreat
set_option linter.unusedVariables false
end Go.Proofs.YtkoehhpfjpdkcaaGreat

namespace Go.Proofs.YtkoehhpfjpdkcaaGreat
set_option linter.unusedVariables false
theorem sameCompsT1_ps (x y : Comp) (hl : x.vals.length ≤ 1099511627776) : PS Tryz.prog 68 [compA false x, compA false y] (bA (decide (x = y))) := by
  have heq := equalI_ps x.vals y.vals hl
  rw [← compEq]
  refine Spec.of (nt := 17) (res := [.tmp 4]) Tryz.func68 rfl (by kernel_rfl) rfl rfl rfl fun Sf => ?_
  (repeat refine WF ?_); refine AWP.region ?_; (repeat (first | (refine AOps.gN ?_; first | (refine AOps.g_box ?_; refine AOps.goB ?_)) | refine WO ?_ | refine All.i fun X => ?_ | refine AllY.i fun Y => ?_)); refine AOps.nil ?_; (repeat refine WN ?_)
  rcases Bool.eq_false_or_eq_true (decide (x.kind = y.kind)) with g | g
  · rw [g]
    (repeat (first | (refine AOps.gN ?_; first | (refine AOps.g_callf ?_; first | refine AOps.c2 (h := (heq ..)) (k := ?_))) | refine WK ?_ | refine All.i fun X => ?_ | refine AllY.i fun Y => ?_))
    (refine AWP.ret ?_; (repeat (first | refine inB_r ?_ | refine andThen_r ?_)); refine retQ_r ?_); refine Ends.ps ?_
    rfl
  · rw [g]
    (repeat (first | refine WK ?_ | refine All.i fun X => ?_ | refine AllY.i fun Y => ?_))
    (refine AWP.ret ?_; (repeat (first | refine inB_r ?_ | refine andThen_r ?_)); refine retQ_r ?_); refine Ends.ps ?_
    rfl
theorem sameCompsT_ps (a b : List Comp) (hl : CsL a) : PS Tryz.prog 38 [compsA false false a, compsA false false b] (bA (decide (a = b))) := by
  have h := equalFuncC_ps a b 68 [] (fun x y => decide (x = y)) rfl (by have := hl.1; omega) (fun x hx y _ => sameCompsT1_ps x y (hl.2 x hx))
  rw [eqF_eq fun _ _ _ _ => rfl] at h
  refine Spec.of (nt := 8) (res := [.tmp 4]) Tryz.func38 rfl (by kernel_rfl) rfl rfl rfl fun Sf => ?_
  (repeat (first | (refine AOps.gN ?_; first | (refine AOps.g_callf ?_; first | refine AOps.c3 (h := (h ..)) (k := ?_))) | refine WK ?_ | refine All.i fun X => ?_ | refine AllY.i fun Y => ?_))
  (refine AWP.ret ?_; (repeat (first | refine inB_r ?_ | refine andThen_r ?_)); refine retQ_r ?_); refine Ends.ps ?_
  rfl
theorem sameItemsT1_ps (x y : Item) (hl : CsL x.comps) : PS Tryz.prog 37 [itemA false x, itemA false y] (bA (decide (x = y))) := by
  have heq := sameCompsT_ps x.comps y.comps hl
  rw [← itemEq]
  refine Spec.of (nt := 17) (res := [.tmp 4]) Tryz.func37 rfl (by kernel_rfl) rfl rfl rfl fun Sf => ?_
  (repeat refine WF ?_); refine AWP.region ?_; (repeat (first | (refine AOps.gN ?_; first | (refine AOps.g_box ?_; refine AOps.goB ?_)) | refine WO ?_ | refine All.i fun X => ?_ | refine AllY.i fun Y => ?_)); refine AOps.nil ?_; (repeat refine WN ?_)
  have hE := entEql x.ent.n x.ent.gen y.ent.n y.ent.gen
  rw [show (decide (x.ent.n = y.ent.n) && decide (x.ent.gen = y.ent.gen)) = sameE x.ent y.ent from rfl] at hE
  cases hb : sameE x.ent y.ent
  · rw [hb] at hE
    (repeat (first | (refine AOps.gN ?_; first | refine AOps.p (W.eqP _ _ (by kernel_rfl) hE rfl rfl) rfl ?_) | refine WK ?_ | refine All.i fun X => ?_ | refine AllY.i fun Y => ?_))
    (refine AWP.ret ?_; (repeat (first | refine inB_r ?_ | refine andThen_r ?_)); refine retQ_r ?_); refine Ends.ps ?_
    rfl
  · rw [hb] at hE
    (repeat (first | (refine AOps.gN ?_; first | (refine AOps.g_callf ?_; first | refine AOps.c2 (h := (heq ..)) (k := ?_)) | refine AOps.p (W.eqP _ _ (by kernel_rfl) hE rfl rfl) rfl ?_) | refine WK ?_ | refine All.i fun X => ?_ | refine AllY.i fun Y => ?_))
    (refine AWP.ret ?_; (repeat (first | refine inB_r ?_ | refine andThen_r ?_)); refine retQ_r ?_); refine Ends.ps ?_
    rfl
theorem sameItemsT_ps (a b : List Item) (hl : ItL a) : PS Tryz.prog 14 [itemsA false false a, itemsA false false b] (bA (decide (a = b))) := by
  have h := equalFuncT_ps a b 37 [] (fun x y => decide (x = y)) rfl (by have := hl.1; omega) (fun x hx y _ => sameItemsT1_ps x y (hl.2 x hx))
  rw [eqF_eq fun _ _ _ _ => rfl] at h
  refine Spec.of (nt := 8) (res := [.tmp 4]) Tryz.func14 rfl (by kernel_rfl) rfl rfl rfl fun Sf => ?_
  (repeat (first | (refine AOps.gN ?_; first | (refine AOps.g_callf ?_; first | refine AOps.c3 (h := (h ..)) (k := ?_))) | refine WK ?_ | refine All.i fun X => ?_ | refine AllY.i fun Y => ?_))
  (refine AWP.ret ?_; (repeat (first | refine inB_r ?_ | refine andThen_r ?_)); refine retQ_r ?_); refine Ends.ps ?_
  rfl
end Go.Proofs.YtkoehhpfjpdkcaaGreat

namespace Go.Proofs.YtkoehhpfjpdkcaaGreat
set_option linter.unusedVariables false
/-- IndexFunc over a row that is written later. -/
theorem indexFuncOT_po (X : Nat) (l : List Item) (f : FuncId) (cap : List AV) (p : Item → Bool) (hs : st1s cap = true) (hl : l.length ≤ 4611686018427387904) (hf : ∀ x ∈ l, PS Tryz.prog f ((itemA false) x :: cap) (bA (p x))) : PO Tryz.prog 34 [.sl X 0 l.length, .fn f cap] X (.row 48 3 (l.map (itemA false))) (iA (idxF l p)) (.row 48 3 (l.map (itemA false))) := by
  refine Spec.of (nt := 19) (res := [.tmp 4]) Tryz.func34 rfl (by kernel_rfl) rfl rfl rfl fun Sf => ?_
  (repeat (first | refine WK ?_ | refine All.i fun X => ?_ | refine AllY.i fun Y => ?_))
  refine AWP.lp (fun i : Nat => ⟨[(0, .sl X 0 l.length), (1, .fn f cap), (7, iA l.length), (8, iA i)], (X, .row 48 3 (l.map (itemA false))) :: Sf⟩) (fun i => i ≤ l.length ∧ ∀ j (h : j < l.length), j < i → p l[j] = false) (fun i => l.length - i) 0 ⟨Nat.zero_le _, fun j h hj => absurd hj (by omega)⟩ ?_
  rintro i ⟨hi, he⟩
  (repeat (first | refine WK ?_ | refine All.i fun X => ?_ | refine AllY.i fun Y => ?_))
  refine AWP.cond rfl (fun hc => ?_) (fun hc => ?_)
  · have h : i < l.length := by simpa using hc
    (repeat (first | (refine AOps.gN ?_; first | (refine AOps.g_callv ?_; first | refine AOps.k1 (h := (hf _ (List.getElem_mem h))) (k := ?_))) | refine WK ?_ | refine All.i fun X => ?_ | refine AllY.i fun Y => ?_))
    refine AWP.cond rfl (fun hd => ?_) (fun hd => ?_)
    · (repeat (first | refine WK ?_ | refine All.i fun X => ?_ | refine AllY.i fun Y => ?_))
      (refine AWP.ret ?_; (repeat (first | refine inB_r ?_ | refine andThen_r ?_)); refine retQ_r ?_); refine Ends.po ?_ ?_
      · rw [idxF_some h hd fun j hj => he j (by omega) hj]
      · rfl
    · (repeat (first | refine WK ?_ | refine All.i fun X => ?_ | refine AllY.i fun Y => ?_))
      refine lp_next (i + 1) ⟨h, fun j h1 h2 => ?_⟩
      by_cases e : j = i
      · subst e; exact hd
      · exact he j h1 (by omega)
  · have h : ¬ i < l.length := by simpa using hc
    (repeat (first | refine WK ?_ | refine All.i fun X => ?_ | refine AllY.i fun Y => ?_))
    (refine AWP.ret ?_; (repeat (first | refine inB_r ?_ | refine andThen_r ?_)); refine retQ_r ?_); refine Ends.po ?_ ?_
    · rw [idxF_none fun j hj => he j hj (by omega)]
    · rfl
theorem deleteFuncT_sp (X : Nat) (l : List Item) (f : FuncId) (cap : List AV) (p : Item → Bool) (hs : st1s cap = true) (hl : l.length ≤ 4611686018427387903) (hf : ∀ x ∈ l, PS Tryz.prog f ((itemA false) x :: cap) (bA (p x))) : Spec Tryz.prog 11 [.sl X 0 l.length, .fn f cap] [(X, .row 48 3 (l.map (itemA false)))] fun r S' => r = .lst true 48 3 ((l.filter fun x => !p x).map (itemA false)) ∧ S' = [] := by
  refine Spec.of (nt := 42) (res := [.tmp 4]) Tryz.func11 rfl (by kernel_rfl) rfl rfl rfl fun Sf => ?_
  have h0 := indexFuncOT_po X l f cap p hs (by omega) hf
  have hr := idxF_range l p
  obtain ⟨v, hv⟩ : ∃ v, idxF l p = v := ⟨_, rfl⟩
  rw [hv] at h0 hr
  (repeat (first | (refine AOps.gN ?_; first | (refine AOps.g_callf ?_; first | refine AOps.o2 (h := (h0 ..)) (k := ?_))) | refine WK ?_ | refine All.i fun X => ?_ | refine AllY.i fun Y => ?_))
  refine AWP.cond rfl (fun hc => ?_) (fun hc => ?_)
  · have hc : v = -1 := by simpa using hc
    have hall : (l.filter fun x => !p x) = l := by
      rw [List.filter_eq_self]
      intro x hx
      have h1 : l.findIdx? p = none := by
        unfold idxF at hv
        split at hv
        · omega
        · assumption
      rw [List.findIdx?_eq_none_iff] at h1
      simp [h1 x hx]
    rw [hall]
    (repeat (first | refine WK ?_ | refine All.i fun X => ?_ | refine AllY.i fun Y => ?_))
    (refine AWP.ret ?_; (repeat (first | refine inB_r ?_ | refine andThen_r ?_)); refine retQ_r ?_)
    exact ⟨[.sl X 0 l.length], [.lst true 48 3 (l.map (itemA false))], _, [], .cons (.tmp rfl) rfl .nil, .cons (.cell (.sl (p := 0) .here (by simp))) .nil, by exact Sub.f, rfl, rfl⟩
  · have hc : v ≠ -1 := by simpa using hc
    obtain ⟨i0, hi0⟩ : ∃ i0 : Nat, v = i0 := ⟨v.toNat, by omega⟩
    subst hi0
    have hfi : l.findIdx? p = some i0 := by
      unfold idxF at hv
      split at hv
      · rename_i i hi; rw [hi]; congr 1; omega
      · omega
    obtain ⟨hil, hpi, hmin⟩ := List.findIdx?_eq_some_iff_getElem.1 hfi
    have ht0 : (l.take (i0 + 1)).filter (fun x => !p x) = l.take i0 := by
      rw [List.take_succ_eq_append_getElem hil, List.filter_append]
      rw [show ([l[i0]].filter fun x => !p x) = [] by simp [hpi], List.append_nil, List.filter_eq_self]
      intro x hx
      obtain ⟨j, hj, rfl⟩ := List.mem_take_iff_getElem.1 hx
      have := hmin j (by omega)
      simp at this ⊢
      exact this
    (repeat (first | refine WK ?_ | refine All.i fun X => ?_ | refine AllY.i fun Y => ?_))
    refine AWP.lp3 (fun (i j : Nat) (M : List AV) => ⟨[(0, .sl X 0 l.length), (1, .fn f cap), (5, iA i), (6, iA j)], (X, .row 48 3 M) :: Sf⟩) (fun i j M => i < j ∧ j ≤ l.length ∧ ∃ K : List Item, M = K.map (itemA false) ∧ K.length = l.length ∧ K.take i = ((l.take j).filter fun x => !p x) ∧ K.drop j = l.drop j) (fun i j _ => l.length - j) i0 (i0 + 1) (l.map (itemA false)) ⟨by omega, hil, l, rfl, rfl, ht0.symm, rfl⟩ ?_
    rintro i j M ⟨hij, hj, K, rfl, hM, h1, h2⟩
    (repeat (first | refine WK ?_ | refine All.i fun X => ?_ | refine AllY.i fun Y => ?_))
    refine AWP.cond rfl (fun hd => ?_) (fun hd => ?_)
    · have h : j < l.length := by simpa using hd
      have hKj : K[j]? = some l[j] := by
        have := congrArg (fun z => z[0]?) h2
        simpa [h] using this
      have hat : (K.map (itemA false))[j]? = some ((itemA false) l[j]) := by rw [List.getElem?_map, hKj]; rfl
      have hKi : i < K.length := by omega
      obtain ⟨b, hb⟩ : ∃ b, p l[j] = b := ⟨_, rfl⟩
      have hfj := hf _ (List.getElem_mem h)
      rw [hb] at hfj
      have htk : (l.take (j + 1)).filter (fun x => !p x) = (l.take j).filter (fun x => !p x) ++ if b then [] else [l[j]] := by
        rw [List.take_succ_eq_append_getElem h, List.filter_append]
        congr 1
        cases b <;> simp [hb]
      (repeat (first | (refine AOps.gN ?_; first | (refine AOps.g_callv ?_; first | refine AOps.k1 (h := (hfj ..)) (k := ?_))) | refine WK ?_ | refine All.i fun X => ?_ | refine AllY.i fun Y => ?_))
      cases b
      · refine AWP.cond_t rfl rfl ?_
        (repeat (first | refine WK ?_ | refine All.i fun X => ?_ | refine AllY.i fun Y => ?_))
        refine lp_next3 (i + 1) (j + 1) _ ⟨by omega, h, K.set i l[j], by rw [List.map_set], by simpa using hM, ?_, ?_⟩
        · rw [htk, ← h1, List.take_add_one, List.take_set, List.set_eq_of_length_le (by rw [List.length_take]; omega), List.getElem?_set_self hKi]
          simp
        · rw [List.drop_set_of_lt (by omega), ← List.drop_drop, h2, List.drop_drop]
      · refine AWP.cond_f rfl rfl ?_
        (repeat (first | refine WK ?_ | refine All.i fun X => ?_ | refine AllY.i fun Y => ?_))
        refine lp_next3 i (j + 1) _ ⟨by omega, h, K, rfl, hM, ?_, ?_⟩
        · rw [h1, htk]; simp
        · rw [← List.drop_drop, h2, List.drop_drop]
    · have h : j = l.length := by rw [decide_eq_false_iff_not] at hd; omega
      subst h
      have h1' : K.take i = l.filter fun x => !p x := by rw [h1, List.take_length]
      have hKl : (K.map (itemA false)).length = l.length := by rw [List.length_map, hM]
      have hki : ∀ A B, (List.take (0 + i) (K.map (itemA false)) ++ A ++ B).take i = (l.filter fun x => !p x).map (itemA false) := fun A B => by
        rw [Nat.zero_add, List.append_assoc, List.take_append_of_le_length (by rw [List.length_take]; omega), List.take_take, Nat.min_self, ← List.map_take, h1']
      have hfl : i = ((l.filter fun x => !p x).map (itemA false)).length := by
        rw [← h1', List.length_map, List.length_take]; omega
      (repeat (first | (refine AOps.gN ?_; first | refine AOps.s (W.slice_lo rfl rfl (by exact At.f) rfl (by omega)) rfl ?_ | refine AOps.s (W.clear rfl (by exact At.f) (by first | exact .inl rfl | exact .inr rfl) rfl (by omega)) rfl ?_ | refine AOps.p (W.hi rfl rfl (by exact At.f) rfl (by omega)) rfl ?_) | refine WK ?_ | refine All.i fun X => ?_ | refine AllY.i fun Y => ?_))
      refine AWP.shrink (X := X) i ?_
      rw [hki]
      (refine AWP.ret ?_; (repeat (first | refine inB_r ?_ | refine andThen_r ?_)); refine retQ_r ?_)
      exact ⟨[.sl X 0 i], [.lst true 48 3 ((l.filter fun x => !p x).map (itemA false))], _, [], .cons (.tmp rfl) rfl .nil, .cons (.cell (.sl (p := 0) .here hfl)) .nil, by exact Sub.f, rfl, rfl⟩
end Go.Proofs.YtkoehhpfjpdkcaaGreat

namespace Go.Proofs.YtkoehhpfjpdkcaaGreat
set_option linter.unusedVariables false
/-- IndexFunc over a row that is written later. -/
theorem indexFuncOV_po (X : Nat) (l : List Evt) (f : FuncId) (cap : List AV) (p : Evt → Bool) (hs : st1s cap = true) (hl : l.length ≤ 4611686018427387904) (hf : ∀ x ∈ l, PS Tryz.prog f (evtA x :: cap) (bA (p x))) : PO Tryz.prog 39 [.sl X 0 l.length, .fn f cap] X (.row 54 4 (l.map evtA)) (iA (idxF l p)) (.row 54 4 (l.map evtA)) := by
  refine Spec.of (nt := 19) (res := [.tmp 4]) Tryz.func39 rfl (by kernel_rfl) rfl rfl rfl fun Sf => ?_
  (repeat (first | refine WK ?_ | refine All.i fun X => ?_ | refine AllY.i fun Y => ?_))
  refine AWP.lp (fun i : Nat => ⟨[(0, .sl X 0 l.length), (1, .fn f cap), (7, iA l.length), (8, iA i)], (X, .row 54 4 (l.map evtA)) :: Sf⟩) (fun i => i ≤ l.length ∧ ∀ j (h : j < l.length), j < i → p l[j] = false) (fun i => l.length - i) 0 ⟨Nat.zero_le _, fun j h hj => absurd hj (by omega)⟩ ?_
  rintro i ⟨hi, he⟩
  (repeat (first | refine WK ?_ | refine All.i fun X => ?_ | refine AllY.i fun Y => ?_))
  refine AWP.cond rfl (fun hc => ?_) (fun hc => ?_)
  · have h : i < l.length := by simpa using hc
    (repeat (first | (refine AOps.gN ?_; first | (refine AOps.g_callv ?_; first | refine AOps.k1 (h := (hf _ (List.getElem_mem h))) (k := ?_))) | refine WK ?_ | refine All.i fun X => ?_ | refine AllY.i fun Y => ?_))
    refine AWP.cond rfl (fun hd => ?_) (fun hd => ?_)
    · (repeat (first | refine WK ?_ | refine All.i fun X => ?_ | refine AllY.i fun Y => ?_))
      (refine AWP.ret ?_; (repeat (first | refine inB_r ?_ | refine andThen_r ?_)); refine retQ_r ?_); refine Ends.po ?_ ?_
      · rw [idxF_some h hd fun j hj => he j (by omega) hj]
      · rfl
    · (repeat (first | refine WK ?_ | refine All.i fun X => ?_ | refine AllY.i fun Y => ?_))
      refine lp_next (i + 1) ⟨h, fun j h1 h2 => ?_⟩
      by_cases e : j = i
      · subst e; exact hd
      · exact he j h1 (by omega)
  · have h : ¬ i < l.length := by simpa using hc
    (repeat (first | refine WK ?_ | refine All.i fun X => ?_ | refine AllY.i fun Y => ?_))
    (refine AWP.ret ?_; (repeat (first | refine inB_r ?_ | refine andThen_r ?_)); refine retQ_r ?_); refine Ends.po ?_ ?_
    · rw [idxF_none fun j hj => he j hj (by omega)]
    · rfl
theorem deleteFuncV_sp (X : Nat) (l : List Evt) (f : FuncId) (cap : List AV) (p : Evt → Bool) (hs : st1s cap = true) (hl : l.length ≤ 4611686018427387903) (hf : ∀ x ∈ l, PS Tryz.prog f (evtA x :: cap) (bA (p x))) : Spec Tryz.prog 15 [.sl X 0 l.length, .fn f cap] [(X, .row 54 4 (l.map evtA))] fun r S' => r = .lst true 54 4 ((l.filter fun x => !p x).map evtA) ∧ S' = [] := by
  refine Spec.of (nt := 42) (res := [.tmp 4]) Tryz.func15 rfl (by kernel_rfl) rfl rfl rfl fun Sf => ?_
  have h0 := indexFuncOV_po X l f cap p hs (by omega) hf
  have hr := idxF_range l p
  obtain ⟨v, hv⟩ : ∃ v, idxF l p = v := ⟨_, rfl⟩
  rw [hv] at h0 hr
  (repeat (first | (refine AOps.gN ?_; first | (refine AOps.g_callf ?_; first | refine AOps.o2 (h := (h0 ..)) (k := ?_))) | refine WK ?_ | refine All.i fun X => ?_ | refine AllY.i fun Y => ?_))
  refine AWP.cond rfl (fun hc => ?_) (fun hc => ?_)
  · have hc : v = -1 := by simpa using hc
    have hall : (l.filter fun x => !p x) = l := by
      rw [List.filter_eq_self]
      intro x hx
      have h1 : l.findIdx? p = none := by
        unfold idxF at hv
        split at hv
        · omega
        · assumption
      rw [List.findIdx?_eq_none_iff] at h1
      simp [h1 x hx]
    rw [hall]
    (repeat (first | refine WK ?_ | refine All.i fun X => ?_ | refine AllY.i fun Y => ?_))
    (refine AWP.ret ?_; (repeat (first | refine inB_r ?_ | refine andThen_r ?_)); refine retQ_r ?_)
    exact ⟨[.sl X 0 l.length], [.lst true 54 4 (l.map evtA)], _, [], .cons (.tmp rfl) rfl .nil, .cons (.cell (.sl (p := 0) .here (by simp))) .nil, by exact Sub.f, rfl, rfl⟩
  · have hc : v ≠ -1 := by simpa using hc
    obtain ⟨i0, hi0⟩ : ∃ i0 : Nat, v = i0 := ⟨v.toNat, by omega⟩
    subst hi0
    have hfi : l.findIdx? p = some i0 := by
      unfold idxF at hv
      split at hv
      · rename_i i hi; rw [hi]; congr 1; omega
      · omega
    obtain ⟨hil, hpi, hmin⟩ := List.findIdx?_eq_some_iff_getElem.1 hfi
    have ht0 : (l.take (i0 + 1)).filter (fun x => !p x) = l.take i0 := by
      rw [List.take_succ_eq_append_getElem hil, List.filter_append]
      rw [show ([l[i0]].filter fun x => !p x) = [] by simp [hpi], List.append_nil, List.filter_eq_self]
      intro x hx
      obtain ⟨j, hj, rfl⟩ := List.mem_take_iff_getElem.1 hx
      have := hmin j (by omega)
      simp at this ⊢
      exact this
    (repeat (first | refine WK ?_ | refine All.i fun X => ?_ | refine AllY.i fun Y => ?_))
    refine AWP.lp3 (fun (i j : Nat) (M : List AV) => ⟨[(0, .sl X 0 l.length), (1, .fn f cap), (5, iA i), (6, iA j)], (X, .row 54 4 M) :: Sf⟩) (fun i j M => i < j ∧ j ≤ l.length ∧ ∃ K : List Evt, M = K.map evtA ∧ K.length = l.length ∧ K.take i = ((l.take j).filter fun x => !p x) ∧ K.drop j = l.drop j) (fun i j _ => l.length - j) i0 (i0 + 1) (l.map evtA) ⟨by omega, hil, l, rfl, rfl, ht0.symm, rfl⟩ ?_
    rintro i j M ⟨hij, hj, K, rfl, hM, h1, h2⟩
    (repeat (first | refine WK ?_ | refine All.i fun X => ?_ | refine AllY.i fun Y => ?_))
    refine AWP.cond rfl (fun hd => ?_) (fun hd => ?_)
    · have h : j < l.length := by simpa using hd
      have hKj : K[j]? = some l[j] := by
        have := congrArg (fun z => z[0]?) h2
        simpa [h] using this
      have hat : (K.map evtA)[j]? = some (evtA l[j]) := by rw [List.getElem?_map, hKj]; rfl
      have hKi : i < K.length := by omega
      obtain ⟨b, hb⟩ : ∃ b, p l[j] = b := ⟨_, rfl⟩
      have hfj := hf _ (List.getElem_mem h)
      rw [hb] at hfj
      have htk : (l.take (j + 1)).filter (fun x => !p x) = (l.take j).filter (fun x => !p x) ++ if b then [] else [l[j]] := by
        rw [List.take_succ_eq_append_getElem h, List.filter_append]
        congr 1
        cases b <;> simp [hb]
      (repeat (first | (refine AOps.gN ?_; first | (refine AOps.g_callv ?_; first | refine AOps.k1 (h := (hfj ..)) (k := ?_))) | refine WK ?_ | refine All.i fun X => ?_ | refine AllY.i fun Y => ?_))
      cases b
      · refine AWP.cond_t rfl rfl ?_
        (repeat (first | refine WK ?_ | refine All.i fun X => ?_ | refine AllY.i fun Y => ?_))
        refine lp_next3 (i + 1) (j + 1) _ ⟨by omega, h, K.set i l[j], by rw [List.map_set], by simpa using hM, ?_, ?_⟩
        · rw [htk, ← h1, List.take_add_one, List.take_set, List.set_eq_of_length_le (by rw [List.length_take]; omega), List.getElem?_set_self hKi]
          simp
        · rw [List.drop_set_of_lt (by omega), ← List.drop_drop, h2, List.drop_drop]
      · refine AWP.cond_f rfl rfl ?_
        (repeat (first | refine WK ?_ | refine All.i fun X => ?_ | refine AllY.i fun Y => ?_))
        refine lp_next3 i (j + 1) _ ⟨by omega, h, K, rfl, hM, ?_, ?_⟩
        · rw [h1, htk]; simp
        · rw [← List.drop_drop, h2, List.drop_drop]
    · have h : j = l.length := by rw [decide_eq_false_iff_not] at hd; omega
      subst h
      have h1' : K.take i = l.filter fun x => !p x := by rw [h1, List.take_length]
      have hKl : (K.map evtA).length = l.length := by rw [List.length_map, hM]
      have hki : ∀ A B, (List.take (0 + i) (K.map evtA) ++ A ++ B).take i = (l.filter fun x => !p x).map evtA := fun A B => by
        rw [Nat.zero_add, List.append_assoc, List.take_append_of_le_length (by rw [List.length_take]; omega), List.take_take, Nat.min_self, ← List.map_take, h1']
      have hfl : i = ((l.filter fun x => !p x).map evtA).length := by
        rw [← h1', List.length_map, List.length_take]; omega
      (repeat (first | (refine AOps.gN ?_; first | refine AOps.s (W.slice_lo rfl rfl (by exact At.f) rfl (by omega)) rfl ?_ | refine AOps.s (W.clear rfl (by exact At.f) (by first | exact .inl rfl | exact .inr rfl) rfl (by omega)) rfl ?_ | refine AOps.p (W.hi rfl rfl (by exact At.f) rfl (by omega)) rfl ?_) | refine WK ?_ | refine All.i fun X => ?_ | refine AllY.i fun Y => ?_))
      refine AWP.shrink (X := X) i ?_
      rw [hki]
      (refine AWP.ret ?_; (repeat (first | refine inB_r ?_ | refine andThen_r ?_)); refine retQ_r ?_)
      exact ⟨[.sl X 0 i], [.lst true 54 4 ((l.filter fun x => !p x).map evtA)], _, [], .cons (.tmp rfl) rfl .nil, .cons (.cell (.sl (p := 0) .here hfl)) .nil, by exact Sub.f, rfl, rfl⟩
end Go.Proofs.YtkoehhpfjpdkcaaGreat

namespace Go.Proofs.YtkoehhpfjpdkcaaGreat
set_option linter.unusedVariables false
theorem cloneV_ps (l : List Evt) (hl : l.length * 32 ≤ 140737488355328) : PS Tryz.prog 16 [.lst false 54 4 (l.map evtA)] (.lst true 54 4 (l.map evtA)) := by
  refine Spec.of (nt := 8) (res := [.tmp 2]) Tryz.func16 rfl (by kernel_rfl) rfl rfl rfl fun Sf => ?_
  (repeat (first | (refine AOps.gN ?_; first | refine AOps.isNil fun b hb => ?_) | refine WK ?_ | refine All.i fun X => ?_ | refine AllY.i fun Y => ?_))
  refine AWP.cond rfl (fun hc => ?_) (fun hc => ?_)
  · rw [hb hc]
    (repeat (first | refine WK ?_ | refine All.i fun X => ?_ | refine AllY.i fun Y => ?_))
    (refine AWP.ret ?_; (repeat (first | refine inB_r ?_ | refine andThen_r ?_)); refine retQ_r ?_)
    exact ⟨[.prim (.slice none 0 0)], [.lst true 54 4 []], _, [], .cons (.tmp rfl) rfl .nil, .cons (.cell .nil) .nil, by exact Sub.f, rfl, rfl⟩
  · have hl' : (0 + (l.map evtA).length) * 32 ≤ 140737488355328 := by simpa using hl
    clear hl
    (repeat (first | (refine AOps.gN ?_; first | (refine AOps.g_lit ?_; refine AOps.goL0 fun K => ?_)) | refine WK ?_ | refine All.i fun X => ?_ | refine AllY.i fun Y => ?_))
    (refine AWP.ret ?_; (repeat (first | refine inB_r ?_ | refine andThen_r ?_)); refine retQ_r ?_)
    exact ⟨[.sl Y 0 (0 + (l.map evtA).length)], [.lst true 54 4 (l.map evtA)], _, [], .cons (.tmp rfl) rfl .nil, .cons (.cell (.sl (p := 0) .here (by simp))) .nil, by exact Sub.f, rfl, rfl⟩
end Go.Proofs.YtkoehhpfjpdkcaaGreat

namespace Go.Proofs.YtkoehhpfjpdkcaaGreat
set_option linter.unusedVariables false
open Go.RowKit
def baseM (w : World) : Mem := ⟨fun _ => none, fun _ => False, w, fun b => b < w.heap.size⟩
theorem baseM_good (w : World) : Good (baseM w) (baseM w) 0 [] [] :=
  ⟨fun z hz => (by cases hz), .nil, fun b hb => (by cases hb), fun b h => h, .nil, fun x hx => (by cases hx), fun x h => h.elim, .refl _, rfl, rfl, rfl, Nat.le_refl _⟩
theorem Good.bel {w : World} {m' : Mem} {N : Nat} {Z : Zs} {br : List Nat} (G : Good (baseM w) m' N Z br) : Below w.heap.size w m'.w :=
  ⟨G.os, G.tape, G.output, G.size, fun k hk => (G.le.F k hk).2⟩
theorem PS.calls_bool {P : Program} {f : FuncId} {args : List AV} {b : Bool} (h : PS P f args (bA b)) {w : World} {vals : Array Value} (hv : VTs (baseM w) args vals.toList []) :
    Calls P f vals w fun e w' => e = .returned (.bool b) ∧ Below w.heap.size w w' :=
  (h.run [] (baseM w) 0 [] vals rfl (baseM_good w) hv).mono fun e w' ⟨v, r, S', m', N', Z', br, h1, h2, h3, G, h4, h5, h6⟩ => by
    subst h1 h2 h5
    refine ⟨?_, G.bel⟩
    obtain ⟨⟨h7, _⟩, _⟩ := h4
    injection h7 with h7
    rw [h7]
theorem cells_vcs {α : Type} {m : Mem} {C : List Value → α → Prop} {sz : Nat} {f : α → AV} (hC : ∀ c x, C c x → VC m (f x) c []) : ∀ {l : List α} {xs : List Value}, Cells C sz xs l → VCs m (l.map f) xs []
  | [], _, h => ⟨h, rfl⟩
  | x :: l, _, ⟨c, ys, h1, h2, h3, h4⟩ => ⟨c, ys, [], [], h1, rfl, hC c x h3, cells_vcs hC h4⟩
theorem cell_block {w : World} {b o : Nat} {u : Value} (h : w.cell? ⟨b, o, none⟩ = some u) : ∃ arr t r, w.heap[b]? = some (.cells arr t r) ∧ arr[o]? = some u := by
  unfold World.cell? at h
  cases hb : w.heap[b]? with
  | none => simp only [hb] at h; cases h
  | some blk =>
    cases blk with
    | cells c t r => simp only [hb] at h; exact ⟨c, t, r, rfl, by simpa using h⟩
    | _ => simp only [hb] at h; cases h
theorem sl_vc {α : Type} {w : World} {C : World → Reg → List Value → α → Prop} {sz : Nat} {f : α → AV} {t : TypeId} {v : Value} {l : List α} (hsz : 0 < sz) (hC : ∀ c x, C w (Lt w) c x → VC (baseM w) (f x) c []) (hw : ∀ x, (f x).width = sz) (h : Sl w (Lt w) sz C v l) : VC (baseM w) (.lst false t sz (l.map f)) [v] [] := by
  obtain ⟨xs, ⟨h1, A, cap, rfl, hn, hr⟩, hc⟩ := h
  refine ⟨rfl, A, cap, by simp, by simpa using hn, fun e he => by obtain ⟨x, _, rfl⟩ := List.mem_map.1 he; exact hw x, fun h0 => ?_⟩
  have h0 : 0 < l.length := by simpa using h0
  obtain ⟨b, off, rfl, hb, hcell⟩ := hr h0
  have hx : 0 < xs.length := by rw [h1]; exact Nat.mul_pos h0 hsz
  obtain ⟨arr, t', r, h2, h3⟩ := cell_block (hcell 0 xs[0] (by simp))
  refine ⟨b, off, arr, t', r, rfl, hb, h2, ?_⟩
  have e : (arr.toList.drop off).take ((l.map f).length * sz) = xs := by
    apply List.ext_getElem?
    intro j
    rw [List.getElem?_take]
    split
    · rename_i hj
      have hj : j < xs.length := by rw [h1]; simpa using hj
      obtain ⟨arr2, t2, r2, h4, h5⟩ := cell_block (hcell j xs[j] (by simp))
      rw [h2] at h4
      injection h4 with h4
      injection h4 with h4
      subst h4
      rw [List.getElem?_drop, List.getElem?_eq_getElem hj]
      simpa using h5
    · rename_i hj
      rw [List.getElem?_eq_none]
      rw [h1]; simpa using hj
  rw [e]
  exact cells_vcs hC hc
theorem ints_vc {w : World} {v : Value} {l : List Int} (h : Ints w (Lt w) v l) : VC (baseM w) (intsA false l) [v] [] :=
  sl_vc (f := iA) (by decide) (fun c x hc => ⟨⟨hc, rfl⟩, rfl⟩) (fun _ => rfl) h
theorem vts_nil {m : Mem} : VTs m [] [] [] := ⟨rfl, rfl⟩
theorem vts_int {m : Mem} {l : List AV} {us : List Value} {x : Int} (k : VTs m l us []) : VTs m (iA x :: l) (.int .i64 x :: us) [] := (VTs_cons rfl).2 ⟨_, _, [], [], rfl, rfl, ⟨⟨rfl, rfl⟩, rfl⟩, k⟩
theorem vts_ints {w : World} {v : Value} {z : List Int} {l : List AV} {us : List Value} (h : Ints w (Lt w) v z) (k : VTs (baseM w) l us []) : VTs (baseM w) (intsA false z :: l) (v :: us) [] := (VTs_cons rfl).2 ⟨_, _, [], [], rfl, rfl, ints_vc h, k⟩
end Go.Proofs.YtkoehhpfjpdkcaaGreat

namespace Go.Proofs.YtkoehhpfjpdkcaaGreat
set_option linter.unusedVariables false
open Go.RowKit
theorem evtEq3 {P : Program} {t te : TypeId} (h1 : P.underlying t = some (.struct (P.fieldsOf t))) (h2 : P.stoodInHeld t = false) (h : ev3 P t te = true) (g1 : P.underlying te = some (.struct (P.fieldsOf te))) (g2 : P.stoodInHeld te = false) (g3 : two2 P te = true)
    (hp : ∀ (a b c d : Int) (w : World), (part te #[.int .i64 a, .int .i64 b, .int .i64 c, .int .i64 d] 1).run P w = .ok (.agg #[.int .i64 b, .int .i64 c]) w) (a b c d a' b' c' d' : Int) (w : World) :
    (Op.equalIn 10000 t (.agg #[.int .i64 a, .int .i64 b, .int .i64 c, .int .i64 d]) (.agg #[.int .i64 a', .int .i64 b', .int .i64 c', .int .i64 d'])).run P w = .ok (decide (a = a') && (decide (b = b') && decide (c = c')) && decide (d = d')) w := by
  rw [show (10000 : Nat) = 9999 + 1 from rfl, run_equalIn_agg w 9999 t _ _ h1 h2]
  unfold ev3 at h
  split at h
  · rename_i f1 f2 f3 hf
    simp only [Bool.and_eq_true, bne_iff_ne, ne_eq, beq_iff_eq] at h
    obtain ⟨⟨⟨⟨⟨⟨⟨n1, n2⟩, n3⟩, o1⟩, o2⟩, o3⟩, o4⟩, hu⟩ := h
    have o4 := Nat.eq_of_beq_eq_true o4
    subst o4
    split at hu
    · rename_i k1 k3 u1 u3
      have p1 : ∀ a b c d : Int, (part f1.type #[.int .i64 a, .int .i64 b, .int .i64 c, .int .i64 d] f1.offset).run P w = .ok (.int .i64 a) w := fun a b c d => run_part_int u1 (by rw [o1]; rfl) w
      have p2 : ∀ a b c d : Int, (part f2.type #[.int .i64 a, .int .i64 b, .int .i64 c, .int .i64 d] f2.offset).run P w = .ok (.agg #[.int .i64 b, .int .i64 c]) w := fun a b c d => by rw [o2]; exact hp a b c d w
      have p3 : ∀ a b c d : Int, (part f3.type #[.int .i64 a, .int .i64 b, .int .i64 c, .int .i64 d] f3.offset).run P w = .ok (.int .i64 d) w := fun a b c d => run_part_int u3 (by rw [o3]; rfl) w
      have q1 : ∀ a c : Int, (Op.equalIn 9999 f1.type (.int .i64 a) (.int .i64 c)).run P w = .ok (a == c) w := fun a c => run_equalIn_int (P := P) w 9998 f1.type .i64 k1 a c u1
      have q2 : ∀ a b c d : Int, (Op.equalIn 9999 f2.type (.agg #[.int .i64 a, .int .i64 b]) (.agg #[.int .i64 c, .int .i64 d])).run P w = .ok (decide (a = c) && decide (b = d)) w := fun a b c d => eq_twoF 9997 g1 g2 g3 a b c d w
      have q3 : ∀ a c : Int, (Op.equalIn 9999 f3.type (.int .i64 a) (.int .i64 c)).run P w = .ok (a == c) w := fun a c => run_equalIn_int (P := P) w 9998 f3.type .i64 k3 a c u3
      rw [hf]
      by_cases e1 : a = a'
      · by_cases e2 : b = b'
        · by_cases e4 : c = c'
          · by_cases e3 : d = d'
            · simp [Op.eqFields, n1, n2, n3, Sem.run_bind, p1, p2, p3, q1, q2, q3, e1, e2, e3, e4, Sem.run_pure, Sem.run_ite, Result.andThen_ok]
            · simp [Op.eqFields, n1, n2, n3, Sem.run_bind, p1, p2, p3, q1, q2, q3, e1, e2, e3, e4, Sem.run_pure, Sem.run_ite, Result.andThen_ok]
          · simp [Op.eqFields, n1, n2, Sem.run_bind, p1, p2, q1, q2, e1, e2, e4, Sem.run_pure, Sem.run_ite, Result.andThen_ok]
        · simp [Op.eqFields, n1, n2, Sem.run_bind, p1, p2, q1, q2, e1, e2, Sem.run_pure, Sem.run_ite, Result.andThen_ok]
      · simp [Op.eqFields, n1, Sem.run_bind, p1, q1, e1, Sem.run_pure, Sem.run_ite, Result.andThen_ok]
    · cases hu
  · cases h
theorem entNeqG (a b c d : Int) (w : World) : (binOp .neq 42 (.agg [Value.int .i64 a, Value.int .i64 b].toArray) (.agg [Value.int .i64 c, Value.int .i64 d].toArray)).run Tryz.prog w = .ok (.bool (!(decide (a = c) && decide (b = d)))) w := by
  have h := eq_twoF (P := Tryz.prog) (t := 42) 9998 (by kernel_rfl) (by kernel_rfl) (by kernel_rfl) a b c d w
  rw [run_neq_struct]
  have e : (Op.equalIn 10000 42 (.agg [Value.int .i64 a, Value.int .i64 b].toArray) (.agg [Value.int .i64 c, Value.int .i64 d].toArray)).run Tryz.prog w = _ := h
  rw [e, Result.andThen_ok]
theorem evtNeqS (a b c d : Int) (w : World) : (binOp .neq 54 (.agg [Value.int .i64 a, Value.int .i64 b, Value.int .i64 c, Value.int .i64 d].toArray) (.agg [Value.int .i64 a, Value.int .i64 b, Value.int .i64 c, Value.int .i64 d].toArray)).run Tryz.prog w = .ok (.bool false) w := by
  have h := evtEq3 (P := Tryz.prog) (t := 54) (te := 42) (by kernel_rfl) (by kernel_rfl) (by kernel_rfl) (by kernel_rfl) (by kernel_rfl) (by kernel_rfl) (fun a b c d w => by kernel_rfl) a b c d a b c d w
  rw [run_neq_struct]
  have e : (Op.equalIn 10000 54 (.agg [Value.int .i64 a, Value.int .i64 b, Value.int .i64 c, Value.int .i64 d].toArray) (.agg [Value.int .i64 a, Value.int .i64 b, Value.int .i64 c, Value.int .i64 d].toArray)).run Tryz.prog w = _ := h
  rw [e, Result.andThen_ok]
  simp
/-- A list of events is equal to itself. -/
theorem equalES_ps (l : List Evt) (hl : l.length ≤ 1099511627776) : PS Tryz.prog 18 [.lst false 54 4 (l.map evtA), .lst false 54 4 (l.map evtA)] (bA true) := by
  refine Spec.of (nt := 26) (res := [.tmp 4]) Tryz.func18 rfl (by kernel_rfl) rfl rfl rfl fun Sf => ?_
  (repeat (first | refine WK ?_ | refine All.i fun X => ?_ | refine AllY.i fun Y => ?_))
  refine AWP.cond_f rfl (by simp) ?_
  (repeat (first | refine WK ?_ | refine All.i fun X => ?_ | refine AllY.i fun Y => ?_))
  refine AWP.lp (fun i : Nat => ⟨[(0, .lst false 54 4 (l.map evtA)), (1, .lst false 54 4 (l.map evtA)), (12, iA (l.map evtA).length), (13, iA i)], Sf⟩) (fun i => i ≤ l.length) (fun i => l.length - i) 0 (Nat.zero_le _) ?_
  rintro i hi
  (repeat (first | refine WK ?_ | refine All.i fun X => ?_ | refine AllY.i fun Y => ?_))
  refine AWP.cond rfl (fun hc => ?_) (fun hc => ?_)
  · have h : i < l.length := by rw [decide_eq_true_eq, List.length_map] at hc; omega
    obtain ⟨⟨es, ⟨en, eg⟩, ev⟩, hx⟩ : ∃ x, l[i] = x := ⟨_, rfl⟩
    have hat : (l.map evtA)[i]? = some (evtA ⟨es, ⟨en, eg⟩, ev⟩) := by rw [List.getElem?_map, List.getElem?_eq_getElem h, hx]; rfl
    (repeat (first | refine WK ?_ | refine All.i fun X => ?_ | refine AllY.i fun Y => ?_))
    (repeat refine WF ?_); refine AWP.region_run (by kernel_rfl) (by kernel_rfl) ?_; (repeat (first | (refine RGo.gN ?_; first | refine RGo.p (W.neP _ _ (by kernel_rfl) (evtNeqS es en eg ev) rfl rfl) rfl ?_) | (refine RGo.gQ ?_; first | refine RGo.p (W.neP _ _ (by kernel_rfl) (evtNeqS es en eg ev) rfl rfl) rfl ?_) | refine RK ?_ | refine RGo.nil (by kernel_rfl) ?_))
    (repeat (first | refine WK ?_ | refine All.i fun X => ?_ | refine AllY.i fun Y => ?_))
    refine AWP.cond_f rfl rfl ?_
    (repeat (first | refine WK ?_ | refine All.i fun X => ?_ | refine AllY.i fun Y => ?_))
    refine lp_next (i + 1) h
  · (repeat (first | refine WK ?_ | refine All.i fun X => ?_ | refine AllY.i fun Y => ?_))
    (refine AWP.ret ?_; (repeat (first | refine inB_r ?_ | refine andThen_r ?_)); refine retQ_r ?_); refine Ends.ps ?_
    rfl
theorem alone1_ps (x : Item) (e : Ent) : PS Tryz.prog 12 [itemA false x, .fp (entA e).cells] (bA (!decide (x.ent = e))) := by
  obtain ⟨⟨xn, xg⟩, xc⟩ := x
  obtain ⟨en, eg⟩ := e
  refine Spec.of (nt := 8) (res := [.tmp 3]) Tryz.func12 rfl (by kernel_rfl) rfl rfl rfl fun Sf => ?_
  (repeat (first | (refine AOps.gN ?_; first | (refine AOps.g_box ?_; refine AOps.goB ?_) | refine AOps.p (W.neP _ _ (by kernel_rfl) (entNeqG xn xg en eg) rfl rfl) rfl ?_) | refine WK ?_ | refine All.i fun X => ?_ | refine AllY.i fun Y => ?_))
  (refine AWP.ret ?_; (repeat (first | refine inB_r ?_ | refine andThen_r ?_)); refine retQ_r ?_); refine Ends.ps ?_
  rw [← sameE_dec]
  rfl
theorem alone2_ps (x : Evt) (e : Ent) : PS Tryz.prog 17 [evtA x, .fp (entA e).cells] (bA (!decide (x.ent = e))) := by
  obtain ⟨xs, ⟨xn, xg⟩, xv⟩ := x
  obtain ⟨en, eg⟩ := e
  refine Spec.of (nt := 8) (res := [.tmp 3]) Tryz.func17 rfl (by kernel_rfl) rfl rfl rfl fun Sf => ?_
  (repeat (first | (refine AOps.gN ?_; first | (refine AOps.g_box ?_; refine AOps.goB ?_) | refine AOps.p (W.neP _ _ (by kernel_rfl) (entNeqG xn xg en eg) rfl rfl) rfl ?_) | refine WK ?_ | refine All.i fun X => ?_ | refine AllY.i fun Y => ?_))
  (refine AWP.ret ?_; (repeat (first | refine inB_r ?_ | refine andThen_r ?_)); refine retQ_r ?_); refine Ends.ps ?_
  rw [← sameE_dec]
  rfl
theorem findE_same {l l0 : List Item} (he : l.map Item.ent = l0.map Item.ent) (hs : l0.Pairwise fun a b => a.ent.n < b.ent.n) {i : Nat} {x : Item} (h : l0[i]? = some x) : findE l x.ent = i := by
  have hlen : l.length = l0.length := by have := congrArg List.length he; simpa using this
  have hi := (List.getElem?_eq_some_iff.1 h).1
  have hx := (List.getElem?_eq_some_iff.1 h).2
  have hent : ∀ (j : Nat) (hj : j < l.length), l[j].ent = (l0[j]'(by omega)).ent := fun j hj => by
    have : (l.map Item.ent)[j]? = (l0.map Item.ent)[j]? := by rw [he]
    rw [List.getElem?_map, List.getElem?_map, List.getElem?_eq_getElem hj, List.getElem?_eq_getElem (by omega)] at this
    injection this
  unfold findE
  refine idxF_some (by omega) ?_ fun j hj => ?_
  · rw [hent i (by omega), hx]
    simp
  · rw [hent j (by omega)]
    have := List.pairwise_iff_getElem.1 hs j i (by omega) hi hj
    rw [hx] at this
    exact decide_eq_false fun e => by rw [e] at this; omega
theorem drop_take_one {α : Type} {l : List α} {i : Nat} {x : α} (h : l[i]? = some x) : (l.take (i + 1)).drop i = [x] := by
  obtain ⟨hi, hx⟩ := List.getElem?_eq_some_iff.1 h
  rw [List.take_succ_eq_append_getElem hi, List.drop_left' (by simp; omega), hx]
theorem RunG.alone {w : Wd} {s : Sys} (h : RunG w s) (hs : s.ops.length ≤ 1099511627775) {x : Item} (hx : x ∈ w.items) : RunG (aloneW w x) s := by
  have hok := aloneW_ok h.ok hx
  refine ⟨hok.wl, hok, h.k12, h.sg, ?_⟩
  have h1 := allOf_len (aloneW w x).items s.wth s.wout
  have h2 : (aloneW w x).items.length = 1 := rfl
  rw [h2] at h1
  have := Nat.mul_le_mul h1 hs
  omega
theorem RunG.cnt {w : Wd} {s : Sys} (h : RunG w s) (index seed tick : Int) : (runM w s index seed tick).2.1.length ≤ 1099511627775 ∧ (runM w s index seed tick).2.2.length ≤ 1099511627775 := by
  obtain ⟨h1, h2, _⟩ := rowsM_ok (index := index) (seed := seed) (tick := tick) h.ok.ks h.sg.ops (allOf w.items s.wth s.wout) (w.items, [], []) fun q hq => (allOf_has h.sg (fun it hit => (h.ok.it it hit).2.2.2.2) q hq).2
  have := h.n
  simp only [List.length_nil, Nat.zero_add] at h1 h2
  exact ⟨Nat.le_trans h1 this, Nat.le_trans h2 this⟩
set_option maxRecDepth 8000 in
set_option maxHeartbeats 2000000 in
theorem systemAlone_ps (l m : List Int) (seed tick n : Int) (hl : l.length * 8 ≤ 140737488351232) (hm : m.length * 8 ≤ 140737488351232) (h1 : I64 seed) (h2 : I64 tick) (h3 : I64 n) : PS Tryz.prog 4 [intsA false l, intsA false m, iA seed, iA tick, iA n] (bA true) := by
  have hma := madeW_e l m
  have hwp := world_ps l
  have hrg := fun (s : Sys) hs => runG_of l (s := s) hs
  obtain ⟨w, hw⟩ : ∃ w, genWorld l = w := ⟨_, rfl⟩
  rw [hw] at hma hrg hwp
  clear hw
  refine Spec.of (nt := 150) (res := [.tmp 10]) Tryz.func4 rfl (by kernel_rfl) rfl rfl rfl fun Sf => ?_
  (repeat refine WF ?_); refine AWP.region ?_; (repeat (first | refine WO ?_ | refine All.i fun X => ?_ | refine AllY.i fun Y => ?_)); refine AOps.nil ?_; (repeat refine WN ?_)
  (repeat (first | (refine AOps.gN ?_; first | (refine AOps.g_callf ?_; first | refine AOps.c0 (h := (aged_ps ..)) (k := ?_))) | refine WK ?_ | refine All.i fun X => ?_ | refine AllY.i fun Y => ?_))
  refine AWP.cond_f rfl rfl ?_
  (repeat first | refine AOps.nil ?_ | refine WF ?_)
  refine AWP.region ?_
  refine WO ?_
  refine WO ?_
  refine AOps.e2 (h := hma) fun s hs => ?_
  have hg := hrg s hs
  refine WO ?_
  refine WO ?_
  refine WO ?_
  refine WO ?_
  refine All.i fun R11 => ?_
  refine WO ?_
  refine All.i fun R12 => ?_
  (repeat (first | refine WO ?_ | refine All.i fun X => ?_ | refine AllY.i fun Y => ?_))
  (repeat first | refine AOps.nil ?_ | refine WF ?_)
  by_cases he : w.items = []
  · have hpk := pick_no w n he
    (repeat (first | (refine AOps.gN ?_; first | (refine AOps.g_callf ?_; first | refine AOps.c2 (h := (hpk ..)) (k := ?_))) | refine WK ?_ | refine All.i fun X => ?_ | refine AllY.i fun Y => ?_))
    refine AWP.cond_t rfl rfl ?_
    (repeat (first | refine WK ?_ | refine All.i fun X => ?_ | refine AllY.i fun Y => ?_))
    (refine AWP.ret ?_; (repeat (first | refine inB_r ?_ | refine andThen_r ?_)); refine retQ_r ?_); refine Ends.ps ?_
    rfl
  have hil0 : w.items.length ≤ 256 := by have := hg.ok.il; have := hg.ok.gl; omega
  have hiL : ItL w.items := hg.wl.items
  obtain ⟨i, hi, hil⟩ := idx_of n (List.length_pos_iff.2 he)
  obtain ⟨⟨⟨en, eg⟩, cs⟩, hit⟩ : ∃ it, w.items[i]? = some it := ⟨w.items[i], List.getElem?_eq_getElem hil⟩
  have hmem := List.mem_of_getElem? hit
  have hpk := pick_yes w n i _ hi hit (by omega)
  dsimp only at hpk
  have hga := hg.alone (by have := hs.len; omega) hmem
  have hr := hg.run 1 seed tick
  have hr2 := hga.run 1 seed tick
  rw [alone_items] at hr2
  have hte := alone_evs (s := s) (index := 1) (seed := seed) (tick := tick) hg.ok hmem
  have htc := alone_cmds (s := s) (index := 1) (seed := seed) (tick := tick) hg.ok hmem
  have hvi := runM_at (s := s) (index := 1) (seed := seed) (tick := tick) hit
  have hfx := findE_same (runM_ents (w := w) (s := s) (index := 1) (seed := seed) (tick := tick)) hg.ok.so hit
  have hln := runM_len (w := w) (s := s) (index := 1) (seed := seed) (tick := tick)
  have hvk := hg.okR 1 seed tick
  obtain ⟨hcn, hen⟩ := hg.cnt 1 seed tick
  obtain ⟨hcn2, hen2⟩ := hga.cnt 1 seed tick
  obtain ⟨rc, hrc⟩ : ∃ x, (runM w s 1 seed tick).2.1 = x := ⟨_, rfl⟩
  obtain ⟨rv, hrv⟩ : ∃ x, (runM w s 1 seed tick).2.2 = x := ⟨_, rfl⟩
  obtain ⟨its, hits⟩ : ∃ x, (runM w s 1 seed tick).1 = x := ⟨_, rfl⟩
  obtain ⟨rc2, hrc2⟩ : ∃ x, (runM (aloneW w ⟨⟨en, eg⟩, cs⟩) s 1 seed tick).2.1 = x := ⟨_, rfl⟩
  obtain ⟨rv2, hrv2⟩ : ∃ x, (runM (aloneW w ⟨⟨en, eg⟩, cs⟩) s 1 seed tick).2.2 = x := ⟨_, rfl⟩
  obtain ⟨tx, htx⟩ : ∃ x, turnI w.kinds s 1 seed tick ⟨⟨en, eg⟩, cs⟩ = x := ⟨_, rfl⟩
  rw [hrc, hrv, hits] at hr
  rw [hrc2, hrv2, htx] at hr2
  rw [hrv, hrv2] at hte
  rw [hrc, hrc2] at htc
  rw [hits, htx] at hvi
  rw [hits] at hfx hln hvk
  rw [hrc] at hcn
  rw [hrv] at hen
  rw [hrc2] at hcn2
  rw [hrv2] at hen2
  dsimp only at hfx hte htc
  have hfd := find_ps' ⟨w.kinds, w.gens, its⟩ ⟨en, eg⟩ (by dsimp only; omega)
  dsimp only at hfd
  rw [hfx] at hfd
  have hsm := sameItemsT_ps [tx] [tx] ⟨by simp, fun x hx => by
    rw [List.mem_singleton.1 hx]
    exact (hvk.wl.items.2 tx (List.mem_of_getElem? hvi))⟩
  rw [decide_eq_true rfl] at hsm
  have hcv := cloneV_ps rv (by omega)
  have heq := equalES_ps rv2 (by omega)
  clear hrc hrv hits hrc2 hrv2 htx hma hrg hga hvk
  (repeat refine WF ?_); refine AWP.region ?_; (repeat (first | (refine AOps.gN ?_; first | (refine AOps.g_callf ?_; first | refine AOps.c2 (h := (hpk ..)) (k := ?_))) | refine WO ?_ | refine All.i fun R13 => ?_ | refine AllY.i fun Y => ?_)); refine AOps.nil ?_; (repeat refine WN ?_)
  (repeat (first | refine WK ?_ | refine All.i fun X => ?_ | refine AllY.i fun Y => ?_))
  refine AWP.cond_f rfl rfl ?_
  (repeat first | refine AOps.nil ?_ | refine WF ?_)
  refine AWP.as [(0, intsA false l), (2, iA seed), (3, iA tick), (11, .ptr R11 0 0), (12, .ptr R12 0 0), (13, .ptr R13 0 0)] ((R13, .row 42 2 [entA ⟨en, eg⟩]) :: (R12, .row 31 7 [sysA false s]) :: (R11, .row 27 3 [wdA false w]) :: Sf) ?_
  refine AWP.iceP (X := R13) (b := entA ⟨en, eg⟩) (hf := ⟨rfl⟩) [13] (by exact At.f) ?_ (by intro d hd; rw [List.mem_singleton.1 hd]; rfl)
  refine AWP.rs fun K => ?_
  (repeat refine WF ?_); refine AWP.region ?_; (repeat (first | (refine AOps.gN ?_; first | (refine AOps.g_callf ?_; first | refine AOps.z1 (h := hwp) (hT := .v (.agg (.cons (TW.fz (b := kindsA false false w.kinds)) (.cons (TW.fz (b := intsA false w.gens)) (.cons (.lst (Y := K) rfl) .nil))))) (k := ?_))) | refine WO ?_ | refine All.i fun R15 => ?_ | refine AllY.i fun Y => ?_)); refine AOps.nil ?_; (repeat refine WN ?_)
  have hdf := (deleteFuncT_sp K w.items 12 [.fp (entA ⟨en, eg⟩).cells] (fun x => !decide (x.ent = ⟨en, eg⟩)) rfl (by omega) (fun x _ => alone1_ps x ⟨en, eg⟩)).used
  have hfl : (w.items.filter fun x => !(!decide (x.ent = (⟨en, eg⟩ : Ent)))) = [⟨⟨en, eg⟩, cs⟩] := by
    have := one_filter hg.ok.so hmem
    simpa using this
  rw [hfl] at hdf
  have him : (w.items.map (itemA false)).length = w.items.length := List.length_map _
  rw [← him] at hdf
  (repeat first | refine AOps.nil ?_ | refine WF ?_)
  (repeat refine WF ?_); refine AWP.region ?_; (repeat (first | (refine AOps.gN ?_; first | (refine AOps.g_callf ?_; first | refine AOps.z2 (h := hdf) (hT := .fz) (k := ?_))) | refine WO ?_ | refine All.i fun X => ?_ | refine AllY.i fun Y => ?_)); refine AOps.nil ?_; (repeat refine WN ?_)
  refine AWP.as [(2, iA seed), (3, iA tick), (11, .ptr R11 0 0), (12, .ptr R12 0 0), (13, .fp (entA ⟨en, eg⟩).cells), (15, .ptr R15 0 0)] ((R15, .row 27 3 [wdA false (aloneW w ⟨⟨en, eg⟩, cs⟩)]) :: (R12, .row 31 7 [sysA false s]) :: (R11, .row 27 3 [wdA false w]) :: Sf) ?_
  (repeat first | refine AOps.nil ?_ | refine WF ?_)
  (repeat refine WF ?_); refine AWP.region ?_; (repeat (first | (refine AOps.gN ?_; first | (refine AOps.g_callf ?_; first | refine AOps.c5 (h := (hr ..)) (k := ?_))) | refine WO ?_ | refine All.i fun R16 => ?_ | refine AllY.i fun Y => ?_)); refine AOps.nil ?_; (repeat refine WN ?_)
  (repeat first | refine AOps.nil ?_ | refine WF ?_)
  (repeat refine WF ?_); refine AWP.region ?_; (repeat (first | (refine AOps.gN ?_; first | (refine AOps.g_callf ?_; first | refine AOps.c5 (h := (hr2 ..)) (k := ?_))) | refine WO ?_ | refine All.i fun R20 => ?_ | refine AllY.i fun Y => ?_)); refine AOps.nil ?_; (repeat refine WN ?_)
  (repeat (first | refine WK ?_ | refine All.i fun X => ?_ | refine AllY.i fun Y => ?_))
  refine AWP.cond_f rfl rfl ?_
  (repeat first | refine AOps.nil ?_ | refine WF ?_)
  (repeat refine WF ?_); refine AWP.region ?_; (repeat (first | (refine AOps.gN ?_; first | (refine AOps.g_callf ?_; first | refine AOps.c2 (h := (hfd ..)) (k := ?_))) | refine WO ?_ | refine All.i fun X => ?_ | refine AllY.i fun Y => ?_)); refine AOps.nil ?_; (repeat refine WN ?_)
  (repeat first | refine AOps.nil ?_ | refine WF ?_)
  have hd1 : decide ((i : Int) < 0) = false := decide_eq_false (by omega)
  have hd2 : decide ((i : Int) ≥ ((its.map (itemA false)).length : Int)) = false := decide_eq_false (by rw [List.length_map]; omega)
  have hsl : ((its.map (itemA false)).take (i + 1)).drop i = [itemA false tx] := drop_take_one (by rw [List.getElem?_map, hvi]; rfl)
  have hlj : i + 1 ≤ (its.map (itemA false)).length := by rw [List.length_map]; omega
  (repeat refine WF ?_); refine AWP.region_run (by kernel_rfl) (by kernel_rfl) ?_; (repeat (first | (refine RGo.gN ?_; first | (refine RGo.g_callf ?_; first | refine RGo.c2 (h := (hsm ..)) (k := ?_))) | (refine RGo.gQ ?_; first | (refine RGo.g_callf ?_; first | refine RGo.c2 (h := (hsm ..)) (k := ?_))) | refine RK ?_ | refine RGo.nil (by kernel_rfl) ?_))
  refine RGo.pg (h := W.lohL i (i + 1) rfl rfl rfl rfl (by omega) (by omega) hlj) (hd := rfl) (hg := .met rfl rfl (by first | rfl | assumption)) ?_
  dsimp only [itemsA]
  rw [hsl]
  (repeat (first | (refine RGo.gN ?_; first | (refine RGo.g_callf ?_; first | refine RGo.c2 (h := (hsm ..)) (k := ?_))) | (refine RGo.gQ ?_; first | (refine RGo.g_callf ?_; first | refine RGo.c2 (h := (hsm ..)) (k := ?_))) | refine RK ?_ | refine RGo.nil (by kernel_rfl) ?_))
  (repeat first | refine AOps.nil ?_ | refine WF ?_)
  refine AWP.cond_f rfl rfl ?_
  (repeat first | refine AOps.nil ?_ | refine WF ?_)
  refine AWP.as [(13, .fp (entA ⟨en, eg⟩).cells), (17, .lst false 58 5 (rc.map cmdA)), (18, .lst false 54 4 (rv.map evtA)), (21, .lst false 58 5 (rc2.map cmdA)), (22, .lst false 54 4 (rv2.map evtA))] Sf ?_
  (repeat refine WF ?_); refine AWP.region ?_; (repeat (first | (refine AOps.gN ?_; first | (refine AOps.g_callf ?_; first | refine AOps.t1 (h := hcv) fun Y => ?_)) | refine WO ?_ | refine All.i fun X => ?_ | refine AllY.i fun Y => ?_))
  have hdv := (deleteFuncV_sp Y rv 17 [.fp (entA ⟨en, eg⟩).cells] (fun x => !decide (x.ent = ⟨en, eg⟩)) rfl (by omega) (fun x _ => alone2_ps x ⟨en, eg⟩)).used
  have hfv : (rv.filter fun x => !(!decide (x.ent = (⟨en, eg⟩ : Ent)))) = rv2 := by rw [← hte]; simp
  rw [hfv] at hdv
  have hvm : (rv.map evtA).length = rv.length := List.length_map _
  rw [← hvm] at hdv
  (repeat (first | (refine AOps.gN ?_; first | (refine AOps.g_callf ?_; first | refine AOps.z2 (h := hdv) (hT := .fz) (k := ?_))) | refine WO ?_ | refine All.i fun X => ?_ | refine AllY.i fun Y => ?_))
  (repeat (first | refine WK ?_ | refine All.i fun X => ?_ | refine AllY.i fun Y => ?_))
  refine AWP.lp (fun i : Nat => ⟨[(13, .fp (entA ⟨en, eg⟩).cells), (18, .lst false 54 4 (rv2.map evtA)), (21, .lst false 58 5 (rc2.map cmdA)), (22, .lst false 54 4 (rv2.map evtA)), (25, iA ((rc.take i).countP fun c => !decide (c.act = 3) && sameE c.ent ⟨en, eg⟩)), (113, .lst false 58 5 (rc.map cmdA)), (114, iA (rc.map cmdA).length), (115, iA i)], Sf⟩) (fun i => i ≤ rc.length) (fun i => rc.length - i) 0 (Nat.zero_le _) ?_
  rintro j hj
  (repeat (first | refine WK ?_ | refine All.i fun X => ?_ | refine AllY.i fun Y => ?_))
  refine AWP.cond rfl (fun hc => ?_) (fun hc => ?_)
  · have h : j < rc.length := by rw [decide_eq_true_eq, List.length_map] at hc; omega
    obtain ⟨⟨ca, ⟨cn, cg⟩, ck, cc⟩, hx⟩ : ∃ x, rc[j] = x := ⟨_, rfl⟩
    have hat : (rc.map cmdA)[j]? = some (cmdA ⟨ca, ⟨cn, cg⟩, ck, cc⟩) := by rw [List.getElem?_map, List.getElem?_eq_getElem h, hx]; rfl
    have hct : ((rc.take j).countP fun c => !decide (c.act = 3) && sameE c.ent ⟨en, eg⟩) ≤ 1099511627775 := Nat.le_trans List.countP_le_length (by rw [List.length_take]; omega)
    have hcs : ((rc.take (j + 1)).countP fun c => !decide (c.act = 3) && sameE c.ent ⟨en, eg⟩) = ((rc.take j).countP fun c => !decide (c.act = 3) && sameE c.ent ⟨en, eg⟩) + (if (!decide (ca = 3) && sameE ⟨cn, cg⟩ ⟨en, eg⟩) = true then 1 else 0) := by
      rw [List.take_succ_eq_append_getElem h, List.countP_append, hx, List.countP_singleton]
    obtain ⟨A, hA⟩ : ∃ A, ((rc.take j).countP fun c => !decide (c.act = 3) && sameE c.ent ⟨en, eg⟩) = A := ⟨_, rfl⟩
    rw [hA] at hct hcs ⊢
    cases hd : decide (ca ≠ 3) with
    | false =>
      have hca : ca = 3 := by simpa using hd
      have hn : ((rc.take (j + 1)).countP fun c => !decide (c.act = 3) && sameE c.ent ⟨en, eg⟩) = A := by rw [hcs]; simp [hca]
      (repeat (first | refine WK ?_ | refine All.i fun X => ?_ | refine AllY.i fun Y => ?_))
      refine AWP.cond_f rfl (by first | rfl | assumption) ?_
      (repeat (first | refine WK ?_ | refine All.i fun X => ?_ | refine AllY.i fun Y => ?_))
      rw [← hn]
      refine lp_next (j + 1) h
    | true =>
      have hca : ca ≠ 3 := by simpa using hd
      (repeat (first | (refine AOps.gN ?_; first | refine AOps.go (h := W.eqP _ _ (by kernel_rfl) (entEql cn cg en eg) rfl rfl) (k := ?_)) | refine WK ?_ | refine All.i fun X => ?_ | refine AllY.i fun Y => ?_))
      cases hq : (decide (cn = en) && decide (cg = eg)) with
      | false =>
        have hs : sameE ⟨cn, cg⟩ ⟨en, eg⟩ = false := hq
        have hn : ((rc.take (j + 1)).countP fun c => !decide (c.act = 3) && sameE c.ent ⟨en, eg⟩) = A := by rw [hcs, hs]; simp
        refine AWP.cond_f rfl (by first | rfl | assumption) ?_
        (repeat (first | refine WK ?_ | refine All.i fun X => ?_ | refine AllY.i fun Y => ?_))
        rw [← hn]
        refine lp_next (j + 1) h
      | true =>
        have hs : sameE ⟨cn, cg⟩ ⟨en, eg⟩ = true := hq
        have hn : ((rc.take (j + 1)).countP fun c => !decide (c.act = 3) && sameE c.ent ⟨en, eg⟩) = A + 1 := by rw [hcs, hs]; simp [hca]
        refine AWP.cond_t rfl (by first | rfl | assumption) ?_
        (repeat (first | refine WK ?_ | refine All.i fun X => ?_ | refine AllY.i fun Y => ?_))
        rw [show ((A : Int) + 1) = ((A + 1 : Nat) : Int) from rfl, ← hn]
        refine lp_next (j + 1) h
  · have h : j = rc.length := by rw [decide_eq_false_iff_not, List.length_map] at hc; omega
    subst h
    rw [List.take_length, htc]
    have hcb : (rc2.countP fun c => !decide (c.act = 3)) ≤ 1099511627775 := Nat.le_trans List.countP_le_length hcn2
    obtain ⟨B, hB⟩ : ∃ B, (rc2.countP fun c => !decide (c.act = 3)) = B := ⟨_, rfl⟩
    rw [hB] at hcb ⊢
    clear hc
    (repeat (first | refine WK ?_ | refine All.i fun X => ?_ | refine AllY.i fun Y => ?_))
    refine AWP.lp (fun i : Nat => ⟨[(18, .lst false 54 4 (rv2.map evtA)), (22, .lst false 54 4 (rv2.map evtA)), (25, iA ((B : Int) - (((rc2.take i).countP fun c => !decide (c.act = 3)) : Nat))), (131, .lst false 58 5 (rc2.map cmdA)), (132, iA (rc2.map cmdA).length), (133, iA i)], Sf⟩) (fun i => i ≤ rc2.length) (fun i => rc2.length - i) 0 (Nat.zero_le _) ?_
    rintro j hj
    (repeat (first | refine WK ?_ | refine All.i fun X => ?_ | refine AllY.i fun Y => ?_))
    refine AWP.cond rfl (fun hc => ?_) (fun hc => ?_)
    · have h : j < rc2.length := by rw [decide_eq_true_eq, List.length_map] at hc; omega
      obtain ⟨⟨ca, ⟨cn, cg⟩, ck, cc⟩, hx⟩ : ∃ x, rc2[j] = x := ⟨_, rfl⟩
      have hat : (rc2.map cmdA)[j]? = some (cmdA ⟨ca, ⟨cn, cg⟩, ck, cc⟩) := by rw [List.getElem?_map, List.getElem?_eq_getElem h, hx]; rfl
      have hct : ((rc2.take j).countP fun c => !decide (c.act = 3)) ≤ 1099511627775 := Nat.le_trans List.countP_le_length (by rw [List.length_take]; omega)
      have hcs : ((rc2.take (j + 1)).countP fun c => !decide (c.act = 3)) = ((rc2.take j).countP fun c => !decide (c.act = 3)) + (if (!decide (ca = 3)) = true then 1 else 0) := by
        rw [List.take_succ_eq_append_getElem h, List.countP_append, hx, List.countP_singleton]
      obtain ⟨A, hA⟩ : ∃ A, ((rc2.take j).countP fun c => !decide (c.act = 3)) = A := ⟨_, rfl⟩
      rw [hA] at hct hcs ⊢
      cases hd : decide (ca ≠ 3) with
      | false =>
        have hca : ca = 3 := by simpa using hd
        have hn : ((rc2.take (j + 1)).countP fun c => !decide (c.act = 3)) = A := by rw [hcs]; simp [hca]
        (repeat (first | refine WK ?_ | refine All.i fun X => ?_ | refine AllY.i fun Y => ?_))
        refine AWP.cond_f rfl (by first | rfl | assumption) ?_
        (repeat (first | refine WK ?_ | refine All.i fun X => ?_ | refine AllY.i fun Y => ?_))
        rw [← hn]
        refine lp_next (j + 1) h
      | true =>
        have hca : ca ≠ 3 := by simpa using hd
        have hn : ((rc2.take (j + 1)).countP fun c => !decide (c.act = 3)) = A + 1 := by rw [hcs]; simp [hca]
        (repeat (first | refine WK ?_ | refine All.i fun X => ?_ | refine AllY.i fun Y => ?_))
        refine AWP.cond_t rfl (by first | rfl | assumption) ?_
        (repeat (first | refine WK ?_ | refine All.i fun X => ?_ | refine AllY.i fun Y => ?_))
        rw [show ((B : Int) - (A : Int) - 1) = (B : Int) - ((A + 1 : Nat) : Int) from by omega, ← hn]
        refine lp_next (j + 1) h
    · have h : j = rc2.length := by rw [decide_eq_false_iff_not, List.length_map] at hc; omega
      subst h
      rw [List.take_length, hB]
      clear hc
      (repeat (first | (refine AOps.gN ?_; first | (refine AOps.g_callf ?_; first | refine AOps.c2 (h := (heq ..)) (k := ?_))) | refine WK ?_ | refine All.i fun X => ?_ | refine AllY.i fun Y => ?_))
      (refine AWP.ret ?_; (repeat (first | refine inB_r ?_ | refine andThen_r ?_)); refine retQ_r ?_); refine Ends.ps ?_
      have : decide ((B : Int) - (B : Int) = 0) = true := decide_eq_true (by omega)
      exact congrArg bA this
theorem systemAlone_calls (z0 : List Int) (A0 : Option Addr) (n0 cap0 : Nat) (z1 : List Int) (A1 : Option Addr) (n1 cap1 : Nat) (z2 : Int) (z3 : Int) (z4 : Int) (w : World) (h0 : Ints w (Lt w) (.slice A0 n0 cap0) z0) (hlen0 : z0.length * 8 ≤ 140737488351232) (h1 : Ints w (Lt w) (.slice A1 n1 cap1) z1) (hlen1 : z1.length * 8 ≤ 140737488351232) (hx2 : I64 z2) (hx3 : I64 z3) (hx4 : I64 z4) :
    Calls Tryz.prog 4 #[.slice A0 n0 cap0, .slice A1 n1 cap1, .int .i64 z2, .int .i64 z3, .int .i64 z4] w fun e w' => e = .returned (.bool true) ∧ Below w.heap.size w w' :=
  (systemAlone_ps z0 z1 z2 z3 z4 hlen0 hlen1 hx2 hx3 hx4).calls_bool (vts_ints h0 (vts_ints h1 (vts_int (vts_int (vts_int (vts_nil))))))
end Go.Proofs.YtkoehhpfjpdkcaaGreat

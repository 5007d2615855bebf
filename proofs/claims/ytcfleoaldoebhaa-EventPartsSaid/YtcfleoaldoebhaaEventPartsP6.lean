/-
  Part 6 of the texts under the law EventParts: the layer of abstract values, walks and plain laws. Conditions: those that each theorem names.
-/
import Derived.Test.YtcfleoaldoebhaaEventPartsP5
namespace Go.Proofs.Ytcfleoaldoebhaa
set_option linter.unusedVariables false
open Go.RowKit
def zE : Evt := ⟨0, ⟨0, 0⟩, 0⟩
/-- The values are whole numbers of the machine. -/
def ValIn (e : Evt) : Prop := -9223372036854775808 ≤ e.val ∧ e.val ≤ 9223372036854775807
theorem cnt_zero {b : List (Int × Int)} (h : CntOK [zE, zE] b) : b.length = 1 := by
  have h0 : ∀ x ∈ b, x.1 = 0 := fun x hx => by
    obtain ⟨e, he, h1⟩ := h.src x hx
    simp only [List.mem_cons, List.not_mem_nil, or_false] at he
    rcases he with rfl | rfl <;> exact h1.symm
  obtain ⟨x, hx, _⟩ := h.mem zE (by simp)
  match b, hx with
  | [y], _ => rfl
  | y :: z :: b, _ =>
    have h1 := (List.pairwise_cons.1 h.inc).1 z (by simp)
    have h2 := h0 y (by simp)
    have h3 := h0 z (by simp)
    omega
theorem isOf_all {l : List Evt} (hv : ∀ e ∈ l, ValIn e) : l.filter (isOf (-1) (-9223372036854775808) 9223372036854775807) = l := by
  rw [List.filter_eq_self]
  intro e he
  have := hv e he
  unfold isOf
  simp [this.1, this.2]
theorem isOf_sys {l : List Evt} (hv : ∀ e ∈ l, ValIn e) {k : Int} (hk : k ≠ -1) : l.filter (isOf k (-9223372036854775808) 9223372036854775807) = l.filter fun e => decide (e.sys = k) := by
  apply List.filter_congr
  intro e he
  have := hv e he
  unfold isOf
  simp [this.1, this.2, hk]
theorem sum_nn (m : List (Int × Int)) (h : ∀ x ∈ m, 0 ≤ x.2) : 0 ≤ (m.map (·.2)).sum := by
  induction m with
  | nil => simp
  | cons x m ih =>
    have h1 := h x (by simp)
    have h2 := ih fun y hy => h y (by simp [hy])
    simp only [List.map_cons, List.sum_cons]
    omega
theorem CntOK.part {l : List Evt} {c : List (Int × Int)} (h : CntOK l c) (i : Nat) : 0 ≤ ((c.take i).map (·.2)).sum ∧ ((c.take i).map (·.2)).sum ≤ l.length := by
  have hn : ∀ x ∈ c, 0 ≤ x.2 := fun x hx => by rw [h.cnt x hx]; omega
  have h1 := sum_nn (c.take i) fun x hx => hn x (List.mem_of_mem_take hx)
  have h2 := sum_nn (c.drop i) fun x hx => hn x (List.mem_of_mem_drop hx)
  have h3 := h.sum
  rw [← List.take_append_drop i c, List.map_append, List.sum_append] at h3
  omega
theorem filter_two {α : Type} (f : α → Bool) (l : List α) : (l.filter f).length + (l.filter fun x => !f x).length = l.length := by
  induction l with
  | nil => rfl
  | cons x l ih => cases h : f x <;> simp [h] <;> omega
theorem eventParts_ps (r : List Int) (l : List Evt) (hl : l.length * 32 ≤ 140737488351232) (hv : ∀ e ∈ l, ValIn e) : PS Try.prog 9 [intsA false r, evtsA false l] (bA true) := by
  refine Spec.of (nt := 84) (res := [.tmp 4]) Try.func9 rfl (by kernel_rfl) rfl rfl rfl fun Sf => ?_
  (repeat refine WF ?_); refine AWP.region ?_; (repeat (first | refine WO ?_ | refine All.i fun X => ?_ | refine AllY.i fun Y => ?_)); refine AOps.nil ?_; (repeat refine WN ?_)
  (repeat refine WF ?_); refine AWP.region ?_; (repeat (first | refine WO ?_ | refine All.i fun X => ?_ | refine AllY.i fun Y => ?_))
  refine AOps.et1 (h := counts_sp [zE, zE] (by decide)) fun b hb Y => ?_
  have hbl := cnt_zero hb
  have hbd : decide ((((b.map cntA).length : Nat) : Int) ≠ 1) = false := by
    rw [decide_eq_false_iff_not, List.length_map, hbl]; simp
  (repeat (first | refine WO ?_ | refine All.i fun X => ?_ | refine AllY.i fun Y => ?_))
  (repeat first | refine AOps.nil ?_ | refine WF ?_)
  refine AWP.cond_f rfl hbd ?_
  (repeat refine WF ?_); refine AWP.region ?_; (repeat (first | refine WO ?_ | refine All.i fun V => ?_ | refine AllY.i fun Y => ?_)); refine AOps.nil ?_; (repeat refine WN ?_)
  refine AWP.iceP [5] .here (b := .agg [iA (-9223372036854775808), iA 9223372036854775807]) (hf := ⟨rfl⟩) ?_ (by intro d hd; simp only [List.mem_singleton] at hd; subst hd; rfl)
  (repeat refine WF ?_); refine AWP.region ?_; (repeat (first | refine WO ?_ | refine All.i fun X => ?_ | refine AllY.i fun Y => ?_)); refine AOps.nil ?_; (repeat refine WN ?_)
  (repeat refine WF ?_); refine AWP.region ?_; (repeat (first | refine WO ?_ | refine All.i fun X => ?_ | refine AllY.i fun Y => ?_))
  refine AOps.et1 (h := counts_sp l hl) fun c hc Z => ?_
  (repeat (first | refine WO ?_ | refine All.i fun X => ?_ | refine AllY.i fun Y => ?_))
  (repeat first | refine AOps.nil ?_ | refine WF ?_)
  refine AWP.lp2 (fun (i : Nat) (s : Int) => ⟨[(0, intsA false r), (1, evtsA false l), (5, .fp [iA (-9223372036854775808), iA 9223372036854775807]), (6, iA s), (20, .sl Z 0 (c.map cntA).length), (21, iA (c.map cntA).length), (22, iA i)], (Z, .row 83 2 (c.map cntA)) :: Sf⟩) (fun i s => i ≤ c.length ∧ s = ((c.take i).map (·.2)).sum) (fun i _ => c.length - i) 0 0 ⟨Nat.zero_le _, rfl⟩ ?_
  rintro i s ⟨hi, hs⟩
  (repeat (first | refine WK ?_ | refine All.i fun X => ?_ | refine AllY.i fun Y => ?_))
  refine AWP.cond rfl (fun hg => ?_) (fun hg => ?_)
  · have h : i < c.length := by rw [decide_eq_true_eq, List.length_map] at hg; omega
    obtain ⟨x, hx⟩ : ∃ x, c[i] = x := ⟨_, rfl⟩
    have hat : (c.map cntA)[i]? = some (cntA x) := by rw [List.getElem?_map, List.getElem?_eq_getElem h, hx]; rfl
    have him : i < (c.map cntA).length := by rw [List.length_map]; exact h
    have hof := of_ps l x.1 (-9223372036854775808) 9223372036854775807 hl
    have hxc := hc.cnt x (by rw [← hx]; exact List.getElem_mem h)
    (repeat refine WF ?_); refine AWP.region ?_; (repeat (first | refine WO ?_ | refine All.i fun V2 => ?_ | refine AllY.i fun Y => ?_)); refine AOps.nil ?_; (repeat refine WN ?_)
    refine AWP.iceP [8] .here (b := cntA x) (hf := ⟨rfl⟩) ?_ (by intro d hd; simp only [List.mem_singleton] at hd; subst hd; rfl)
    (repeat refine WF ?_); refine AWP.region ?_; (repeat (first | (refine AOps.gN ?_; first | (refine AOps.g_callf ?_; first | refine AOps.c3 (h := (hof ..)) (k := ?_))) | refine WO ?_ | refine All.i fun X => ?_ | refine AllY.i fun Y => ?_)); refine AOps.nil ?_; (repeat refine WN ?_)
    (repeat refine WF ?_); refine AWP.region ?_; (repeat (first | refine WO ?_ | refine All.i fun X => ?_ | refine AllY.i fun Y => ?_)); refine AOps.nil ?_; (repeat refine WN ?_)
    have hsum : ((c.take (i + 1)).map (·.2)).sum = ((c.take i).map (·.2)).sum + x.2 := by
      rw [List.take_succ_eq_append_getElem h, hx, List.map_append, List.sum_append]; simp
    have hp1 := hc.part i
    have hp2 := hc.part (i + 1)
    rw [hsum] at hp2
    rw [← hs] at hp1 hp2 hsum
    refine AWP.cond_f rfl ?_ ?_
    · by_cases hk : x.1 = -1
      · simp [hk]
      · have hlen : ((((l.filter (isOf x.1 (-9223372036854775808) 9223372036854775807)).map evtA).length : Nat) : Int) = x.2 := by
          rw [isOf_sys hv hk, List.length_map, hxc]
        simpa [hk] using hlen
    · have hcl := hc.len
      (repeat (first | refine WK ?_ | refine All.i fun X => ?_ | refine AllY.i fun Y => ?_))
      refine lp_next2 (i + 1) (s + x.2) ⟨h, hsum.symm⟩
  · have h : i = c.length := by rw [decide_eq_false_iff_not, List.length_map] at hg; omega
    subst h
    rw [List.take_length, hc.sum] at hs
    obtain ⟨wd, hw⟩ : ∃ wd, genWorld r = wd := ⟨_, rfl⟩
    have hws := genWorld_small r
    have hwp := world_ps r
    rw [hw] at hws hwp
    have hspl := split_ps wd l (by omega) hl
    have hcard := filter_two (inW wd) l
    have g1 : decide (s = ((l.map evtA).length : Int)) = true := by rw [decide_eq_true_eq, List.length_map]; exact hs
    have g2 : decide (((((l.filter (inW wd)).map evtA).length : Nat) : Int) + ((((l.filter fun e => !inW wd e).map evtA).length : Nat) : Int) = ((l.map evtA).length : Int)) = true := by
      rw [decide_eq_true_eq]; simp only [List.length_map]; omega
    have hofa := of_ps l (-1) (-9223372036854775808) 9223372036854775807 hl
    rw [isOf_all hv] at hofa
    have g3 : decide ((((l.map evtA).length : Nat) : Int) = ((l.map evtA).length : Int)) = true := decide_eq_true rfl
    have hl1 : ((l.filter (inW wd)).map evtA).length ≤ 4398046510976 := by rw [List.length_map]; omega
    have hl2 : ((l.filter fun e => !inW wd e).map evtA).length ≤ 4398046510976 := by rw [List.length_map]; omega
    (repeat refine WF ?_); refine AWP.region ?_; (repeat (first | (refine AOps.gN ?_; first | (refine AOps.g_callf ?_; first | refine AOps.c1 (h := (hwp ..)) (k := ?_) | refine AOps.c2 (h := (hspl ..)) (k := ?_))) | refine WO ?_ | refine All.i fun X => ?_ | refine AllY.i fun Y => ?_)); refine AOps.nil ?_; (repeat refine WN ?_)
    (repeat refine WF ?_); refine AWP.region ?_; (repeat (first | (refine AOps.gN ?_; first | (refine AOps.g_callf ?_; first | refine AOps.c3 (h := (hofa ..)) (k := ?_))) | refine WO ?_ | refine All.i fun X => ?_ | refine AllY.i fun Y => ?_))
    refine AOps.et1 (h := last_sp l hl) fun d hd Y2 => ?_
    have g4 : decide ((((d.map evtA).length : Nat) : Int) ≤ ((l.map evtA).length : Int)) = true := by
      rw [decide_eq_true_eq, List.length_map, List.length_map]; omega
    (repeat (first | refine WO ?_ | refine All.i fun X => ?_ | refine AllY.i fun Y => ?_))
    (repeat first | refine AOps.nil ?_ | refine WF ?_)
    (repeat (first | refine WK ?_ | refine All.i fun X => ?_ | refine AllY.i fun Y => ?_))
    (refine AWP.ret ?_; (repeat (first | refine inB_r ?_ | refine andThen_r ?_)); refine retQ_r ?_); refine Ends.ps ?_
    rw [g4]
end Go.Proofs.Ytcfleoaldoebhaa

namespace Go.Proofs.Ytcfleoaldoebhaa
set_option linter.unusedSimpArgs false
set_option linter.unusedVariables false
open Go.ChangeShapes Go.WideShapes Go.ChangeAt Go.RowKit Go.Deep
section
variable {H : Type} {enc : TypeId × Value → H} {w : World} {a : Option Addr} {len cap : Nat} {d : DataW H} {p : List MemPlace}
theorem valIn_of {k0 k1 k2 k3 : Int} (h : (Lit.int .i64 k3).wf = true) : ValIn ⟨k0, ⟨k1, k2⟩, k3⟩ := by
  unfold ValIn
  simp [Lit.wf] at h
  have h1 : IntKind.i64.min = -9223372036854775808 := by decide
  rw [h1] at h
  exact h
theorem evtv_arg (h : DataW.Trod enc Try.prog w 0 (fun _ => true) true 22 (.slice a len cap) d p) :
    ∃ z : List Evt, (Evts w (Lt w) (.slice a len cap) z ∧ ∀ e ∈ z, ValIn e) ∧ (z = [] ∨ ∃ elems spare, d = .slice elems spare ∧ z.length ≤ elems.length + spare.length) := by
  obtain ⟨fuel, hf⟩ := h
  rcases open_slice Try.underlying22 hf with ⟨hcs, _⟩ | ⟨x, l, c, m, n, D, Pl, hcs, hb, hl, hm, hmm, hx, hi⟩
  · simp [Value.cells] at hcs
    obtain ⟨rfl, rfl, rfl⟩ := hcs
    exact ⟨[], ⟨Sl.nil _ _ _ _, by simp⟩, .inl rfl⟩
  · simp [Value.cells] at hcs
    obtain ⟨rfl, rfl, rfl⟩ := hcs
    have hlm : len ≤ m := by rw [hmm]; split <;> omega
    have hex : ∀ i, ∃ e : Evt, i < len → ValIn e ∧ ∀ j u, ([Value.int .i64 e.sys, .int .i64 e.ent.n, .int .i64 e.ent.gen, .int .i64 e.val])[j]? = some u → w.cell? (x.add (i * 4 + j)) = some u := by
      intro i
      by_cases hil : i < len
      · obtain ⟨cs', hc, ht⟩ := hi i (by omega)
        rw [show Try.prog.cellsOf 30 = 4 from by kernel_rfl] at hc
        obtain ⟨_, hcl, hat⟩ := World.cells?_some hc
        obtain ⟨ys, n', _, _, _, hl3, hfs⟩ := DataW.trod_struct Try.underlying30 ht
        have c3 : Try.prog.cellsOf 3 = 1 := by kernel_rfl
        have c28 : Try.prog.cellsOf 28 = 2 := by kernel_rfl
        obtain ⟨u0, u1, u2, u3, rfl⟩ := len4 hcl
        have f0 : DataW.trod enc Try.prog w 0 (fun _ => true) true n' 3 (List.take (Try.prog.cellsOf 3) [u0, u1, u2, u3]) = ys[0]? := hfs 0 _ rfl
        have f1 : DataW.trod enc Try.prog w 0 (fun _ => true) true n' 28 (List.take (Try.prog.cellsOf 28) [u1, u2, u3]) = ys[1]? := hfs 1 _ rfl
        have f2 : DataW.trod enc Try.prog w 0 (fun _ => true) true n' 3 (List.take (Try.prog.cellsOf 3) [u3]) = ys[2]? := hfs 2 _ rfl
        rw [c3] at f0 f2
        rw [c28] at f1
        have hl3 : ys.length = 3 := hl3
        rw [List.getElem?_eq_getElem (by omega)] at f0 f1 f2
        obtain ⟨k0, e0, _⟩ := DataW.trod_int Try.underlying3 f0
        obtain ⟨k3, e3, _, wf3⟩ := DataW.trod_int Try.underlying3 f2
        obtain ⟨zs, n2, _, _, _, hl2, hgs⟩ := DataW.trod_struct Try.underlying28 f1
        have g0 : DataW.trod enc Try.prog w 0 (fun _ => true) true n2 3 (List.take (Try.prog.cellsOf 3) [u1, u2]) = zs[0]? := hgs 0 _ rfl
        have g1 : DataW.trod enc Try.prog w 0 (fun _ => true) true n2 3 (List.take (Try.prog.cellsOf 3) [u2]) = zs[1]? := hgs 1 _ rfl
        rw [c3] at g0 g1
        have hl2' : zs.length = 2 := hl2
        rw [List.getElem?_eq_getElem (by omega)] at g0 g1
        obtain ⟨k1, e1, _⟩ := DataW.trod_int Try.underlying3 g0
        obtain ⟨k2, e2, _⟩ := DataW.trod_int Try.underlying3 g1
        simp only [List.take_succ_cons, List.take_zero, List.cons.injEq, and_true] at e0 e1 e2 e3
        subst e0 e1 e2 e3
        refine ⟨⟨k0, ⟨k1, k2⟩, k3⟩, fun _ => ⟨valIn_of wf3, fun j u hu => ?_⟩⟩
        have hj : j < 4 := (List.getElem?_eq_some_iff.1 hu).1
        have := hat j hj
        rw [Go.Deep.add_add] at this
        rw [this]
        exact hu
      · exact ⟨⟨0, ⟨0, 0⟩, 0⟩, fun h => absurd h hil⟩
    obtain ⟨f, hf'⟩ := Classical.axiomOfChoice hex
    refine ⟨(List.range len).map f, ⟨sl_of_cells (cs := fun e => [Value.int .i64 e.sys, .int .i64 e.ent.n, .int .i64 e.ent.gen, .int .i64 e.val]) hl (by simp) (by omega) (fun _ => rfl) (fun _ => rfl) (fun i hi' j u hu => ?_), fun e he => ?_⟩, .inr ⟨_, _, (Prod.mk.inj hx).1, by simp⟩⟩
    · simp only [List.length_map, List.length_range] at hi'
      exact (hf' i hi').2 j u (by simpa using hu)
    · obtain ⟨i, hi', rfl⟩ := List.mem_map.1 he
      exact (hf' i (List.mem_range.1 hi')).1
end
theorem evts_vc {w : World} {v : Value} {l : List Evt} (h : Evts w (Lt w) v l) : VC (baseM w) (evtsA false l) [v] [] :=
  sl_vc (f := evtA) (by decide) (fun c x hc => by
    subst hc
    exact prims_vcs (baseM w) [.int .i64 x.sys, .int .i64 x.ent.n, .int .i64 x.ent.gen, .int .i64 x.val] (fun u hu => by
      simp only [List.mem_cons, List.not_mem_nil, or_false] at hu
      rcases hu with rfl | rfl | rfl | rfl <;> rfl)) (fun _ => rfl) h
theorem vts_evts {w : World} {v : Value} {z : List Evt} {l : List AV} {us : List Value} (h : Evts w (Lt w) v z) (k : VTs (baseM w) l us []) : VTs (baseM w) (evtsA false z :: l) (v :: us) [] := (VTs_cons rfl).2 ⟨_, _, [], [], rfl, rfl, evts_vc h, k⟩
theorem eventParts_calls (l : List Int) (A0 : Option Addr) (n0 cap0 : Nat) (m : List Evt) (A1 : Option Addr) (n1 cap1 : Nat) (w : World) (hl : Ints w (Lt w) (.slice A0 n0 cap0) l) (hlen : l.length * 8 ≤ 140737488351232) (h1 : Evts w (Lt w) (.slice A1 n1 cap1) m ∧ ∀ e ∈ m, ValIn e) (hlen1 : m.length * 32 ≤ 140737488351232) :
    Calls Try.prog 9 #[.slice A0 n0 cap0, .slice A1 n1 cap1] w fun e w' => e = .returned (.bool true) ∧ Below w.heap.size w w' :=
  (eventParts_ps l m hlen1 h1.2).calls_bool (vts_ints hl (vts_evts h1.1 vts_nil))
end Go.Proofs.Ytcfleoaldoebhaa

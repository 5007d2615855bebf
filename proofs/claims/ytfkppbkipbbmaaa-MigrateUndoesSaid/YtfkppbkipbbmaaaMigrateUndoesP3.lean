/-
  Part 3 of the texts under the law MigrateUndoes: the layer of abstract values, walks and plain laws. Conditions: those that each theorem names.
-/
import Derived.Laws.StructEq
import Derived.Lib.Overlaps
import Derived.Laws.BytesString
import Derived.Test.YtfkppbkipbbmaaaMigrateUndoesP2
namespace Go.Proofs.Ytfkppbkipbbmaaa
set_option linter.unusedVariables false
set_option linter.unusedSimpArgs false
variable {ro : Option Nat}
open Go.RowKit
section
variable {P : Program} {m0 m : Mem} {N : Nat} {R : Zs} {ex : List Nat} {X sz : Nat} {l : List AV} {t t' te ty : TypeId} {x y : Operand} {pos : String} {after : Array Edge} {g : Option (Nat × Bool)} {dst : Option Tmp} {p : Nat}
theorem OpT.slice_lo {k : IntKind} {off n lo : Nat} {qi : Int} (he : tElem P t = some te) (hsz : tSz P te = some sz) (hq : qi = (lo : Int)) (hh : lo ≤ n) : OpT P ⟨dst, .slice t x (some y) none none, ty, pos, after, g⟩ [(x, .sl X off n), (y, .prim (.int k qi))] [(p, (X, .row t' sz l))] (.sl X (off + lo) (n - lo)) [] :=
  .pure_ fun m a hx hS => by
    obtain ⟨bs, hU, L, h1, h2, _⟩ := hS (p, (X, .row t' sz l)) (by simp)
    obtain ⟨_, hU', A, c, e1, h3⟩ := hx (x, .sl X off n) (by simp)
    have hy := (hx (y, .prim (.int k qi)) (by simp)).prim
    injection e1 with e1
    simp only at e1 hy
    subst hq
    have hcap : n ≤ c := by
      rcases h3 L h1 with ⟨_, e, _, e'⟩ | ⟨_, h4, o, e, _⟩
      · omega
      · injection e with _ _ e; omega
    have hr := run_slice (P := P) (w := m.w) he hsz (A := A) (len := n) (cap := c) (lo := lo) (hi := n) (vl := some (.int k lo)) (vh := none) (fun u hu => ⟨k, by injection hu with hu; exact hu.symm⟩) (by simp) (by simp) (by simp) hh hcap
    refine ⟨_, by simp only [execOp, Option.map_none, Option.map_some, e1, hy, Sem.run_bind, hr, Result.andThen_ok]; rfl, rfl, hU', _, _, rfl, fun L' hL' => ?_⟩
    rw [h1] at hL'; injection hL' with hL'; subst hL'
    rcases h3 L h1 with ⟨h5, e, e2, e3⟩ | ⟨h5, h4, o, e, h6⟩
    · injection e with e4 e5 e6
      subst e4 e6
      have : lo = 0 := by omega
      subst this
      exact .inl ⟨h5, by simp [e3], by omega, by omega⟩
    · injection e with e4 e5 e6
      subst e4 e6
      simp only [Option.map_some]
      by_cases hc : lo < L.cap - off
      · refine .inr ⟨h5, by omega, o + lo * sz, ?_, fun _ => ?_⟩
        · rw [if_neg (by omega), pt_add]
          congr 1
          omega
        · rw [h6 (.inl (by omega)), h2, Nat.add_mul]
      · have hlo : lo = L.cap - off := by omega
        refine .inr ⟨h5, by omega, o, by rw [if_pos hlo.symm]; congr 1; omega, fun h => ?_⟩
        rcases h with h | h
        · omega
        · have h0 : off = 0 := by omega
          rw [h6 (.inr h0), h0, show lo = 0 by omega]
/-- The elements of a row from a place on are written, by values that own nothing. -/
theorem Good.splice {bs : List Nat} (G : Good m0 m N (((X, .row t sz l), bs) :: R) ex) {L : Loc} {arr : Array Value} {bs0 : List Nat} (hL : m.μ X = some L) (hnil : L.isNil = false) (hbs : bs = L.blk :: bs0) (hb : m.w.heap[L.blk]? = some (.cells arr t (0, 0))) (harr : arr.size = L.cap * sz) (hl : l.length ≤ L.cap) (hcap : L.cap ≤ maxLen) (hsz : L.sz = sz) (hw : ∀ e ∈ l, e.width = sz)
    (hv : VCs m l (arr.toList.take (l.length * sz)) bs0) {off : Nat} {ns : List AV} {cs : List Value} (hoff : off + ns.length ≤ l.length) (hnw : ∀ e ∈ ns, e.width = sz) (hn : VCs m ns cs []) :
    ∃ b1, Good m0 { m with w := m.w.setRow L.blk (arr.toList.take (off * sz) ++ cs ++ arr.toList.drop (off * sz + cs.length)).toArray } N (((X, .row t sz (l.take off ++ ns ++ l.drop (off + ns.length))), L.blk :: b1) :: R) ex ∧ m.Le { m with w := m.w.setRow L.blk (arr.toList.take (off * sz) ++ cs ++ arr.toList.drop (off * sz + cs.length)).toArray } := by
  have hcs : cs.length = ns.length * sz := by rw [VCs.len _ hn, widths_of hnw]
  obtain ⟨p1, p2, e1, h1, h2⟩ := VCs.take hw hv (k := off) (by omega)
  obtain ⟨p3, p4, e2, h3, h4⟩ := VCs.take (l := l.drop off) (fun e he => hw e (List.mem_of_mem_drop he)) h2 (k := ns.length) (by rw [List.length_drop]; omega)
  rw [List.drop_drop] at h4
  have hlen : (l.take off ++ ns ++ l.drop (off + ns.length)).length = l.length := by simp only [List.length_append, List.length_take, List.length_drop]; omega
  have hsz0 : l.length * sz ≤ arr.toList.length := by rw [show arr.toList.length = arr.size from Array.length_toList, harr]; exact Nat.mul_le_mul_right _ hl
  have hle1 : off * sz + ns.length * sz ≤ l.length * sz := by rw [← Nat.add_mul]; exact Nat.mul_le_mul_right _ hoff
  have nd : (p1 ++ p4).Nodup := by
    have hown := G.own
    rw [own_cons, hbs, e1, e2] at hown
    have h5 : (L.blk :: (p1 ++ (p3 ++ p4))).Nodup := by
      rw [List.append_assoc] at hown
      exact (List.nodup_append.1 hown).1
    have h6 := (List.nodup_cons.1 h5).2
    obtain ⟨h7, h8, h9⟩ := List.nodup_append.1 h6
    obtain ⟨_, h10, _⟩ := List.nodup_append.1 h8
    exact List.nodup_append.2 ⟨h7, h10, fun a ha b hb => h9 a ha b (by simp [hb])⟩
  refine ⟨p1 ++ p4, Good.write G hL hnil hbs hb (l' := l.take off ++ ns ++ l.drop (off + ns.length)) (bs1 := p1 ++ p4) ?_ (by rw [hlen]; exact hl) hcap hsz ?_ ?_ ?_ nd _ rfl⟩
  · simp only [List.size_toArray, List.length_append, List.length_take, List.length_drop, Array.length_toList, harr] at hsz0 ⊢
    omega
  · intro e he
    rcases List.mem_append.1 he with he | he
    · rcases List.mem_append.1 he with he | he
      · exact hw e (List.mem_of_mem_take he)
      · exact hnw e he
    · exact hw e (List.mem_of_mem_drop he)
  · rw [hlen]
    have e3 : (arr.toList.take (off * sz) ++ cs ++ arr.toList.drop (off * sz + cs.length)).take (l.length * sz) = (arr.toList.take (l.length * sz)).take (off * sz) ++ cs ++ ((arr.toList.take (l.length * sz)).drop (off * sz)).drop (ns.length * sz) := by
      rw [List.take_append, List.take_of_length_le (by simp only [List.length_append, List.length_take]; omega)]
      congr 1
      · rw [List.take_take, Nat.min_eq_left (by omega)]
      · rw [List.drop_drop, hcs, List.drop_take]
        congr 1
        simp only [List.length_append, List.length_take]
        omega
    rw [e3]
    have := (h1.append hn).append h4
    simpa using this
  · intro b hb
    rw [e1, e2]
    rcases List.mem_append.1 hb with h | h <;> simp [h]
/-- clear of a part of a row. -/
theorem OpT.clear {off n : Nat} {zl : List Value} {ag : Bool} (he : tElem P t = some te) (hz : tZ P te = some zl) (hsz : tSz P te = some sz) (hag : ag = true ∨ zl.length = 1) (hzs : zl.length = sz) (hn : off + n ≤ l.length) :
    OpT P ⟨dst, .call ⟨.builtin .clear, #[x], #[t]⟩, ty, pos, after, g⟩ [(x, .sl X off n)] [(p, (X, .row te sz l))] (.tup []) [(p, (X, .row te sz (l.take off ++ List.replicate n (zAV zl ag) ++ l.drop (off + n))))] := by
  intro nt m0 T S a w hx hS hd hr
  obtain ⟨i, zv, hi, hzv, hzl, ho⟩ := tZ_spec hz
  obtain ⟨m, N, Z, rfl, h2, h3, h4⟩ := hr
  have h2' : Z.map (·.1) = S := h2
  have hxa : VV m (.sl X off n) (a.eval x) [] := h4.ev (hx (x, .sl X off n) (by simp))
  have hSp := hS (p, (X, .row te sz l)) (by simp)
  rw [← h2', List.getElem?_map] at hSp
  cases hz' : Z[p]? with
  | none => rw [hz'] at hSp; cases hSp
  | some z =>
    rw [hz'] at hSp
    simp only [Option.map_some, Option.some.injEq] at hSp
    obtain ⟨z1, bs⟩ := z
    simp only at hSp
    subst hSp
    obtain ⟨R, hp1, hp2⟩ := perm_get hz'
    have G := h3.perm hp1
    have hO := G.obj _ (List.mem_cons_self ..)
    obtain ⟨hU, L, hL, hLs, hO⟩ := hO
    obtain ⟨_, hU', A, q, e1, hs⟩ := hxa
    injection e1 with e1
    have hexec : ∀ w, (execOp a.eval ⟨dst, .call ⟨.builtin .clear, #[x], #[t]⟩, ty, pos, after, g⟩).run P w = ((Builtin.clear_ #[t] ty #[a.eval x] : Sem Value) >>= fun v => pure (.value v)).run P w := fun w => by rw [run_builtin]; simp [builtin, Sem.run_bind]
    have htup : VV m (.tup []) (.tuple #[]) [] := ⟨#[], rfl, rfl, rfl⟩
    by_cases hn0 : n = 0
    · subst hn0
      have hnoop : (Builtin.clear_ #[t] ty #[a.eval x]).run P m.w = .ok (.tuple #[]) m.w := by
        rw [e1]
        cases A <;> simp [Builtin.clear_, run_underlying (tElem_spec he)]
      unfold Oper.wp
      rw [hexec, Sem.run_bind, hnoop]
      simp only [List.replicate_zero, List.append_nil, Nat.add_zero, List.take_append_drop]
      refine ⟨m, N, Z, rfl, ?_, h3, h4.put hd htup⟩
      have : S.set p (X, .row te sz l) = S := by
        have := hS (p, (X, .row te sz l)) (by simp)
        obtain ⟨h5, h6⟩ := List.getElem?_eq_some_iff.1 this
        have h7 := List.set_getElem_self h5
        rw [h6] at h7; exact h7
      show Z.map (·.1) = setAll S [(p, (X, .row te sz l))]
      rw [setAll, setAll, this, h2']
    · rcases hO with ⟨_, rfl, _⟩ | ⟨hnil, arr, bs0, rfl, hb, harr, hlc, hcap, hw, hv⟩
      · simp at hn; omega
      · rcases hs L hL with ⟨h5, _⟩ | ⟨_, h5, o, h6, h7⟩
        · rw [hnil] at h5; cases h5
        · have ho' := h7 (.inl (by omega))
          have hzw : (zAV zl ag).width = sz := by rw [← VC.len _ (zAV_vc m ho hag), hzs]
          obtain ⟨b1, G', hle⟩ := G.splice hL hnil rfl hb harr hlc hcap hLs hw hv (off := off) (ns := List.replicate n (zAV zl ag)) (cs := (List.replicate n zl).flatten) (by simpa using hn) (fun e he => by rw [List.eq_of_mem_replicate he, hzw]) (vcs_replicate m (zAV_vc m ho hag) n)
          have hcl : (Builtin.zeroCells zv.cells n).toList = (List.replicate n zl).flatten := by
            rw [Builtin.zeroCells, made_flat, hzl]
          have hfl : ((List.replicate n zl).flatten).length = n * sz := by simp [hzs]
          have hst := run_storeCells_at P L.blk o te (List.replicate n zl).flatten 0 arr m.w hb (by
            rw [hfl, harr, ho', hLs, Nat.add_zero, ← Nat.add_mul]
            exact Nat.mul_le_mul_right _ (by omega)) (fun u hu => by
            obtain ⟨l', hl', hu'⟩ := List.mem_flatten.1 hu
            rw [List.eq_of_mem_replicate hl'] at hu'
            exact ho u hu')
          simp only [Nat.add_zero] at hst
          have hzero : ∀ w, (zeroValue te).run P w = .ok zv w := fun w => by simp [zeroValue, typeInfo, Sem.run, program, hi, hzv]
          have hrun : (Builtin.clear_ #[t] ty #[a.eval x]).run P m.w = .ok (.tuple #[]) (m.w.setRow L.blk (arr.toList.take o ++ (List.replicate n zl).flatten ++ arr.toList.drop (o + (List.replicate n zl).flatten.length)).toArray) := by
            rw [e1, h6]
            obtain ⟨n', rfl⟩ : ∃ n', n = n' + 1 := ⟨n - 1, by omega⟩
            simp [Builtin.clear_, run_underlying (tElem_spec he), hzero, hcl, hst]
          unfold Oper.wp
          rw [hexec, Sem.run_bind, hrun, ho', hLs]
          rw [List.length_replicate] at G'
          refine ⟨_, N, Z.set p ((X, .row te sz (l.take off ++ List.replicate n (zAV zl ag) ++ l.drop (off + n))), L.blk :: b1), rfl, ?_, G'.perm (hp2 _).symm, (h4.mono hle).put hd (VV.mono hle (by simp) htup)⟩
          rw [List.map_set, h2']; rfl
theorem Good.less {o o' : AO} {bs bs' : List Nat} (G : Good m0 m N (((X, o), bs) :: R) ex) (h : ORel m X o' bs') (hs : bs'.Sublist bs) : Good m0 m N (((X, o'), bs') :: R) ex := by
  have hso : (Zs.own (((X, o'), bs') :: R) ++ ex).Sublist (Zs.own (((X, o), bs) :: R) ++ ex) := by
    simp only [own_cons]
    exact (hs.append (.refl _)).append (.refl _)
  refine ⟨fun z hz => ?_, G.own.sublist hso, fun b hb => G.blk b (hso.subset hb), G.frz, G.keys, G.keyN, G.usedN, G.le, G.os, G.tape, G.output, G.size⟩
  rcases List.mem_cons.1 hz with rfl | hz
  · exact h
  · exact G.obj z (List.mem_cons_of_mem _ hz)
/-- A row is cut short. -/
theorem St.shrink {nt : Nat} {st : St} (n : Nat) (hS : At st.S p (X, .row t sz l)) : St.To nt st fun st' => st' = ⟨st.T, st.S.set p (X, .row t sz (l.take n))⟩ := by
  rintro m0 a w ⟨m, N, Z, rfl, h2, h3, h4⟩
  obtain ⟨bs, hz⟩ := hS.z h2
  obtain ⟨R, hp1, hp2⟩ := perm_get hz
  have G := h3.perm hp1
  have hO : ORel m X (.row t sz l) bs := G.obj _ (List.mem_cons_self ..)
  obtain ⟨hU, L, hL, hLs, hO⟩ := hO
  obtain ⟨bs', hs, ho⟩ : ∃ bs', bs'.Sublist bs ∧ ORel m X (.row t sz (l.take n)) bs' := by
    rcases hO with ⟨h1, rfl, rfl⟩ | ⟨h1, arr, b0, rfl, e1, e2, e3, e4, e5, e6⟩
    · exact ⟨[], .refl _, hU, L, hL, hLs, .inl ⟨h1, by simp, rfl⟩⟩
    · obtain ⟨p1, p2, e7, k1, k2⟩ := VCs.take e5 e6 (k := min n l.length) (Nat.min_le_right _ _)
      have e8 : l.take (min n l.length) = l.take n := by rw [List.take_eq_take_iff]; omega
      rw [e8] at k1
      refine ⟨L.blk :: p1, by rw [e7]; exact .cons_cons _ (List.sublist_append_left _ _), hU, L, hL, hLs, .inr ⟨h1, arr, p1, rfl, e1, e2, Nat.le_trans (by rw [List.length_take]; exact Nat.min_le_right _ _) e3, e4, fun e he => e5 e (List.mem_of_mem_take he), ?_⟩⟩
      rw [List.take_take, Nat.min_eq_left (Nat.mul_le_mul_right _ (Nat.min_le_right _ _))] at k1
      rw [List.length_take]
      exact k1
  exact ⟨⟨st.T, st.S.set p (X, .row t sz (l.take n))⟩, ⟨m, N, Z.set p ((X, .row t sz (l.take n)), bs'), rfl, by rw [List.map_set, h2], (G.less ho hs).perm (hp2 _).symm, h4⟩, rfl⟩
end
section
variable {P : Program} {nt : Nat} {c : Code} {ops : Array Oper} {rest : List Oper} {Q : Exit → St → Prop} {T : List (Nat × AV)} {S : List Slot} {p n X sz off by_ : Nat} {t te tx ty : TypeId} {l : List AV} {x y : Operand} {dst : Option Tmp} {pos : String} {after : Array Edge} {k : IntKind} {q : Int} {t' : TypeId}
theorem AWP.shrink (n : Nat) (kk : AWP ro P nt c Q ⟨T, S.set p (X, .row t sz (l.take n))⟩) (hS : At S p (X, .row t sz l) := by exact At.f) : AWP ro P nt c Q ⟨T, S⟩ := .ghost (St.shrink (st := ⟨T, S⟩) n hS) fun st' e => by subst e; exact kk
theorem W.slice_lo {c : Option (List Bool)} {g : Option (Nat × Bool)} {lo : Nat} {qi : Int} [TEl P t te] [TSize P te sz] (hx : Rd c T x (.sl X off n)) (hy : Rd c T y (.prim (.int k qi))) (hSp : At S p (X, .row t' sz l)) (hq : qi = (lo : Int)) (hh : lo ≤ n) : Stp c P ⟨dst, .slice t x (some y) none none, ty, pos, after, g⟩ T S [(x, .sl X off n), (y, .prim (.int k qi))] [(p, (X, .row t' sz l))] (.sl X (off + lo) (n - lo)) [] := ⟨.slice_lo TEl.h TSize.h hq hh, .cons hx (.cons hy .nil), .cons hSp .nil⟩
theorem W.clear {c : Option (List Bool)} {g : Option (Nat × Bool)} {zl : List Value} {ag : Bool} [TEl P t te] [TZe P te zl] [TSize P te sz] [TAg P te ag] (hx : Rd c T x (.sl X off n)) (hSp : At S p (X, .row te sz l)) (hag : ag = true ∨ zl.length = 1) (hzs : zl.length = sz) (hn : off + n ≤ l.length) : Stp c P ⟨dst, .call ⟨.builtin .clear, #[x], #[t]⟩, ty, pos, after, g⟩ T S [(x, .sl X off n)] [(p, (X, .row te sz l))] (.tup []) [(p, (X, .row te sz (l.take off ++ List.replicate n (zAV zl ag) ++ l.drop (off + n))))] := ⟨.clear TEl.h TZe.h TSize.h hag hzs hn, .cons hx .nil, .cons hSp .nil⟩
end
end Go.Proofs.Ytfkppbkipbbmaaa

namespace Go.Proofs.Ytfkppbkipbbmaaa
set_option linter.unusedVariables false
variable {ro : Option Nat}
/-- A slice of the whole row reads as the list l'. -/
inductive IceX (X n : Nat) (t : TypeId) (sz : Nat) (l' : List AV) : AV → AV → Prop
  | sl : IceX X n t sz l' (.sl X 0 n) (.lst false t sz l')
mutual
theorem Ic.imp {B B' : AV → AV → Prop} (h : ∀ a b, B a b → B' a b) : {a b : AV} → Ic B a b → Ic B' a b
  | _, _, .same => .same
  | _, _, .base k => .base (h _ _ k)
  | _, _, .agg k => .agg (Ics.imp h k)
theorem Ics.imp {B B' : AV → AV → Prop} (h : ∀ a b, B a b → B' a b) : {a b : List AV} → Ics B a b → Ics B' a b
  | _, _, .nil => .nil
  | _, _, .cons k ks => .cons (Ic.imp h k) (Ics.imp h ks)
end
section
variable {P : Program} {nt : Nat} {c d : Code} {Q : Exit → St → Prop} {T : List (Nat × AV)} {S : List Slot} {p q n X Y sz sz2 : Nat} {t t2 : TypeId} {l l2 l2' : List AV} {st : St}
theorem AWP.iceX (X : Nat) (l' : List AV) (he : AV.frzs l = l') (hI : Ics (IceX X n t sz l') l2 l2') (k : AWP ro P nt c Q ⟨T, (S.set p (X, .used)).set q (Y, .row t2 sz2 l2')⟩) (hS : At S p (X, .row t sz l) := by exact At.f) (hq : At S q (Y, .row t2 sz2 l2) := by exact At.f) (hpq : Nat.beq p q = false := by rfl) (hn : n = l.length := by first | rfl | assumption | omega | (simp; omega) | simp [*]) : AWP ro P nt c Q ⟨T, S⟩ := by
  subst hn
  refine AWP.iceIn hS hq hpq (hI.imp fun a b h => ?_) k
  cases h
  have : AV.frzs ((l.drop 0).take l.length) = l' := by rw [List.drop_zero, List.take_length, he]
  rw [← this]
  exact .sl (by omega)
end
theorem jn {β : Type} {R : β → Prop} {inv : β → St} {st : St} (b : β) (hR : R b) (h0 : st.Le (inv b) := by exact ⟨by exact Lk.f, by exact Sub.f⟩) : Exit.normal = Exit.normal ∧ ∃ b, R b ∧ st.Le (inv b) := ⟨rfl, b, hR, h0⟩
theorem AWP.joinS {P : Program} {nt : Nat} {c d : Code} {Q Q2 : Exit → St → Prop} {st : St} {β : Type} (R : β → Prop) (inv : β → St) (h1 : AWP ro P nt c (fun e st' => e = .normal ∧ ∃ b, R b ∧ st'.Le (inv b)) st) (h2 : ∀ b, R b → AWP ro P nt d Q (inv b)) : AWP ro P nt c (andThen (AWP ro P nt d Q) Q2) st :=
  h1.mono fun e st' ⟨he, b, hb, hle⟩ => by subst he; exact AWP.weak hle (h2 b hb)
/-- An object that a call has used up is used. -/
theorem Spec.used {P : Program} {f : FuncId} {args : List AV} {X : Nat} {t : TypeId} {sz : Nat} {l : List AV} {r : AV} (h : Spec P f args [(X, .row t sz l)] fun r' S' => r' = r ∧ S' = []) : Spec P f args [(X, .row t sz l)] fun r' S' => r' = r ∧ S' = [(X, .used)] :=
  ⟨h.fn, fun Sf m N Z vals h1 h2 h3 => (h.run Sf m N Z vals h1 h2 h3).mono fun e w' ⟨v, r', S', m', N', Z', br, a, b, hm, G, e', hr, hS⟩ => by
    subst hS
    simp only [List.nil_append] at hm
    cases Z with
    | nil => simp at h1
    | cons z Zr =>
      simp only [List.map_cons, List.cons_append, List.nil_append, List.cons.injEq] at h1
      obtain ⟨hz, hzr⟩ := h1
      have hO := h2.obj z (by simp)
      rw [hz] at hO
      have hU : m'.U X := G.le.U X hO.1
      have hk : ∀ Z1 : Zs, Z1.keys = (Z1.map (·.1)).map (·.1) := fun Z1 => by simp [Zs.keys]
      have hnk : X ∉ Z'.keys := by
        have := h2.keys
        rw [Zs.keys, List.map_cons, List.nodup_cons] at this
        rw [hk, hm, ← hzr, ← hk]
        have h0 := this.1
        rw [hz] at h0
        exact h0
      refine ⟨v, r', [(X, .used)], m', N', ((X, .used), []) :: Z', br, a, b, by simp [hm], ?_, e', hr, rfl⟩
      refine ⟨fun q hq => ?_, by simpa [Zs.own] using G.own, by simpa [Zs.own] using G.blk, G.frz, List.nodup_cons.2 ⟨hnk, G.keys⟩, fun x hx => ?_, G.usedN, G.le, G.os, G.tape, G.output, G.size⟩
      · rcases List.mem_cons.1 hq with rfl | hq
        · exact ⟨rfl, hU⟩
        · exact G.obj q hq
      · rcases List.mem_cons.1 hx with rfl | hx
        · exact G.usedN _ hU
        · exact G.keyN x hx⟩
end Go.Proofs.Ytfkppbkipbbmaaa

namespace Go.Proofs.Ytfkppbkipbbmaaa
set_option linter.unusedVariables false
variable {ro : Option Nat}
theorem Hos.at {a b x y : AV} : {L : List AV} → {k : Nat} → L[k]? = some x → Ho a b x y → Hos a b L (L.set k y)
  | [], k, h, _ => by simp at h
  | z :: L, 0, h, hh => by
    have : z = x := by simpa using h
    subst this
    exact .head hh
  | z :: L, k + 1, h, hh => .tail (Hos.at (L := L) (by simpa using h) hh)
theorem Ics.refl {B : AV → AV → Prop} : (L : List AV) → Ics B L L
  | [] => .nil
  | _ :: L => .cons .same (Ics.refl L)
theorem Ics.at {B : AV → AV → Prop} {x y : AV} : {L : List AV} → {k : Nat} → L[k]? = some x → Ic B x y → Ics B L (L.set k y)
  | [], k, h, _ => by simp at h
  | z :: L, 0, h, hh => by
    have : z = x := by simpa using h
    subst this
    exact .cons hh (Ics.refl L)
  | z :: L, k + 1, h, hh => .cons .same (Ics.at (L := L) (by simpa using h) hh)
section
variable {P : Program} {nt : Nat} {c : Code} {ops : Array Oper} {rest : List Oper} {Q : Exit → St → Prop} {T : List (Nat × AV)} {S : List Slot} {p q n X Y sz sz2 : Nat} {t t2 : TypeId} {l l2 l2' : List AV} {st : St}
end
section
variable {P : Program} {dst : Option Tmp} {ty t ty2 : TypeId} {pos : String} {after : Array Edge} {g : Option (Nat × Bool)} {T : List (Nat × AV)} {S : List Slot} {c : Option (List Bool)} {x y : Operand} {i j : Int}
theorem W.subE (k : Int) (h : i - j = k) (hr : -9223372036854775808 ≤ k ∧ k ≤ 9223372036854775807) (hx : Rd c T x (.prim (.int .i64 i))) (hy : Rd c T y (.prim (.int .i64 j))) : Stp c P ⟨dst, .binOp .sub t x y ty2, ty, pos, after, g⟩ T S [(x, .prim (.int .i64 i)), (y, .prim (.int .i64 j))] [] (.prim (.int .i64 k)) [] := h ▸ W.sub hx hy (h ▸ hr)
end
section
variable {P : Program} {dst : Option Tmp} {ty t ty2 : TypeId} {pos : String} {after : Array Edge} {g : Option (Nat × Bool)} {T : List (Nat × AV)} {S : List Slot} {c : Option (List Bool)} {x y : Operand} {a b : Bool}
end
end Go.Proofs.Ytfkppbkipbbmaaa

namespace Go.Proofs.Ytfkppbkipbbmaaa
set_option linter.unusedVariables false
section
variable {P : Program} {nt : Nat} {ops : Array Oper} {Q : Exit → St → Prop} {rest : List Oper} {T : List (Nat × AV)} {S : List Slot} {op : Op} {ty : TypeId} {pos : String} {after : Array Edge} {dst : Option Tmp} {l : List Oper} {acc : List Eff}
/-- What stands for an operation that is left out: nothing that a guard takes for met. -/
abbrev noA : AV := .opt false (.prim (.bool false))
theorem RGo.goNU {g : Nat} {b b' : Bool} {t : Nat} (k : RGo P nt ops l Q rest (acc ++ [⟨⟨dst, op, ty, pos, after, some (g, b)⟩, [t], [], noA, []⟩]) ⟨putD T dst noA, S⟩) (ht : (ops[g]?).bind (·.dst) = some t := by rfl) (hv : look T t = some (.prim (.bool b')) := by rfl) (hb : b' = !b := by first | rfl | assumption | (simp only [Bool.not_true, Bool.not_false]; assumption)) (hd : dstOk dst nt = true := by rfl) : RGo P nt ops l Q (⟨dst, op, ty, pos, after, some (g, b)⟩ :: rest) acc ⟨T, S⟩ := by
  have e : (b' == b) = false := by rw [hb]; cases b <;> rfl
  refine RGo.step_ (fun r => ?_) k
  have := Run.stepQ (P := P) (nt := nt) (ops := ops) (o := ⟨dst, op, ty, pos, after, some (g, b)⟩) (st := ⟨T, S⟩) (xs := []) (rS := []) (v := .prim (.bool false)) (cs := []) rfl ht hv rfl (fun h => absurd (h (b' == b) (by simp)) (by rw [e]; simp)) .nil .nil hd rfl (by rw [e]; exact r)
  rw [e] at this
  exact this
end
end Go.Proofs.Ytfkppbkipbbmaaa

namespace Go.Proofs.Ytfkppbkipbbmaaa
set_option linter.unusedVariables false
section
variable {P : Program} {dst : Option Tmp} {ty t ty2 : TypeId} {pos : String} {after : Array Edge} {g : Option (Nat × Bool)} {T : List (Nat × AV)} {S : List Slot} {c : Option (List Bool)} {x y : Operand}
theorem OpT.conv {k k' k0 : IntKind} {i : Int} {t2 : TypeId} (h1 : P.underlying t = some (.int k0)) (h2 : P.underlying t2 = some (.int k')) (hw : k'.wrap i = i) : OpT P ⟨dst, .convert t t2 x, ty, pos, after, g⟩ [(x, .prim (.int k i))] [] (.prim (.int k' i)) [] :=
  .pure_ fun m a hx _ => by
    have e1 := (hx (x, .prim (.int k i)) (by simp)).prim
    refine ⟨.int k' i, ?_, vv_prim _ rfl⟩
    simp only at e1
    simp [execOp, e1, convert, run_underlying h1, run_underlying h2, Conv.intToInt, hw, Sem.run_bind, Sem.run_pure, Result.andThen_ok]
end
end Go.Proofs.Ytfkppbkipbbmaaa

namespace Go.Proofs.Ytfkppbkipbbmaaa
set_option linter.unusedVariables false
open Go.RowKit
/-- Values that own nothing. -/
def FreeE (e : AV) : Prop := ∀ m c bs, VC m e c bs → bs = []
def FreeL (l : List AV) : Prop := ∀ e ∈ l, FreeE e
theorem FreeL.vcs {l : List AV} (h : FreeL l) {m : Mem} {c : List Value} {bs : List Nat} (k : VCs m l c bs) : bs = [] := by
  induction l generalizing c bs with
  | nil => exact k.2
  | cons e l ih =>
    simp only [VCs] at k
    obtain ⟨c1, c2, b1, b2, _, rfl, h1, h2⟩ := k
    rw [h e (by simp) _ _ _ h1, ih (fun x hx => h x (by simp [hx])) h2]; rfl
theorem FreeL.sub {l l' : List AV} (h : FreeL l) (hs : ∀ e ∈ l', e ∈ l) : FreeL l' := fun e he => h e (hs e he)
theorem FreeE.agg {us : List AV} (h : FreeL us) : FreeE (.agg us) := fun m c bs k => h.vcs (show VCs m us c bs from k)
theorem FreeE.prim (u : Value) : FreeE (.prim u) := fun m c bs k => by
  simp only [VC] at k
  exact k.2
section
variable {m0 m : Mem} {N : Nat} {X sz : Nat} {t : TypeId} {l : List AV} {R : Zs} {ex : List Nat}
/-- A part of a row, or what lies behind its end, is written by values that own nothing. -/
theorem Good.over {bs : List Nat} (G : Good m0 m N (((X, .row t sz l), bs) :: R) ex) {L : Loc} {arr : Array Value} {bs0 : List Nat} (hL : m.μ X = some L) (hnil : L.isNil = false) (hbs : bs = L.blk :: bs0) (hb : m.w.heap[L.blk]? = some (.cells arr t (0, 0))) (harr : arr.size = L.cap * sz) (hl : l.length ≤ L.cap) (hcap : L.cap ≤ maxLen) (hsz : L.sz = sz) (hw : ∀ e ∈ l, e.width = sz)
    (hv : VCs m l (arr.toList.take (l.length * sz)) bs0) (hfr : FreeL l) {off : Nat} {ns : List AV} {cs : List Value} (hoff : off ≤ l.length) (hend : off + ns.length ≤ L.cap) (hnw : ∀ e ∈ ns, e.width = sz) (hn : VCs m ns cs []) :
    Good m0 { m with w := m.w.setRow L.blk (arr.toList.take (off * sz) ++ cs ++ arr.toList.drop (off * sz + cs.length)).toArray } N (((X, .row t sz (l.take off ++ ns ++ l.drop (off + ns.length))), [L.blk]) :: R) ex ∧ m.Le { m with w := m.w.setRow L.blk (arr.toList.take (off * sz) ++ cs ++ arr.toList.drop (off * sz + cs.length)).toArray } := by
  have hcs : cs.length = ns.length * sz := by rw [VCs.len _ hn, widths_of hnw]
  obtain rfl := hfr.vcs hv
  obtain ⟨p1, p2, e1, h1, h2⟩ := VCs.take hw hv (k := off) hoff
  obtain rfl := (hfr.sub fun e he => List.mem_of_mem_take he).vcs h1
  obtain rfl : p2 = [] := by simpa using e1.symm
  have h4 : VCs m (l.drop (off + ns.length)) (((arr.toList.take (l.length * sz)).drop (off * sz)).drop (ns.length * sz)) [] := by
    by_cases hk : off + ns.length ≤ l.length
    · obtain ⟨p3, p4, e2, h3, h4⟩ := VCs.take (l := l.drop off) (fun e he => hw e (List.mem_of_mem_drop he)) h2 (k := ns.length) (by rw [List.length_drop]; omega)
      rw [List.drop_drop] at h4
      have := (hfr.sub fun e he => List.mem_of_mem_drop he).vcs h4
      rw [this] at h4
      exact h4
    · have hz : l.length * sz ≤ off * sz + ns.length * sz := by rw [← Nat.add_mul]; exact Nat.mul_le_mul_right _ (by omega)
      rw [List.drop_of_length_le (by omega), List.drop_drop, List.drop_of_length_le (by rw [List.length_take]; omega)]
      exact ⟨rfl, rfl⟩
  have hsz0 : l.length * sz ≤ arr.toList.length := by rw [show arr.toList.length = arr.size from Array.length_toList, harr]; exact Nat.mul_le_mul_right _ hl
  have hle1 : off * sz + ns.length * sz ≤ arr.toList.length := by rw [← Nat.add_mul, show arr.toList.length = arr.size from Array.length_toList, harr]; exact Nat.mul_le_mul_right _ hend
  have hol : off * sz ≤ l.length * sz := Nat.mul_le_mul_right _ hoff
  have hlen : (l.take off ++ ns ++ l.drop (off + ns.length)).length = max l.length (off + ns.length) := by simp only [List.length_append, List.length_take, List.length_drop]; omega
  refine Good.write G hL hnil hbs hb (l' := l.take off ++ ns ++ l.drop (off + ns.length)) (bs1 := []) ?_ (by rw [hlen]; omega) hcap hsz ?_ ?_ (by simp) (by simp) _ rfl
  · simp only [List.size_toArray, List.length_append, List.length_take, List.length_drop, Array.length_toList, harr] at hsz0 hle1 ⊢
    omega
  · intro e he
    rcases List.mem_append.1 he with he | he
    · rcases List.mem_append.1 he with he | he
      · exact hw e (List.mem_of_mem_take he)
      · exact hnw e he
    · exact hw e (List.mem_of_mem_drop he)
  · rw [hlen]
    have e3 : (arr.toList.take (off * sz) ++ cs ++ arr.toList.drop (off * sz + cs.length)).take (max l.length (off + ns.length) * sz) = (arr.toList.take (l.length * sz)).take (off * sz) ++ cs ++ ((arr.toList.take (l.length * sz)).drop (off * sz)).drop (ns.length * sz) := by
      have hm2 : off * sz + ns.length * sz ≤ max l.length (off + ns.length) * sz := by rw [← Nat.add_mul]; exact Nat.mul_le_mul_right _ (by omega)
      rw [List.take_append, List.take_of_length_le (by simp only [List.length_append, List.length_take]; omega)]
      congr 1
      · rw [List.take_take, Nat.min_eq_left hol]
      · rw [List.drop_drop, hcs, List.drop_take]
        simp only [List.length_append, List.length_take]
        rw [Nat.min_eq_left (by omega), hcs]
        by_cases hk : off + ns.length ≤ l.length
        · rw [Nat.max_eq_left hk]
        · have hz : l.length * sz ≤ off * sz + ns.length * sz := by rw [← Nat.add_mul]; exact Nat.mul_le_mul_right _ (by omega)
          rw [Nat.max_eq_right (by omega), Nat.add_mul, Nat.sub_self, Nat.sub_eq_zero_of_le (by omega)]
    rw [show (arr.toList.take (off * sz) ++ cs ++ arr.toList.drop (off * sz + cs.length)).toArray.toList = arr.toList.take (off * sz) ++ cs ++ arr.toList.drop (off * sz + cs.length) from rfl, e3]
    exact (h1.append hn).append h4
/-- What a part of a row holds, as the source of a copy. -/
theorem src_core {Y : Nat} {l2 : List AV} {t2 : TypeId} {bs2 : List Nat} {vy : Value} {i b k : Nat} (hO : ORel m Y (.row t2 sz l2) bs2) (hy : VV m (.sl Y i b) vy []) (hb : 0 < b) (hfr : FreeL l2) (hi : i + k ≤ l2.length) : ∃ A2 q2 cs, vy = .slice (some A2) b q2 ∧ VCs m ((l2.drop i).take k) cs [] ∧ cs.length = k * sz ∧ ∀ j v, cs[j]? = some v → m.w.cell? (A2.add j) = some v := by
  obtain ⟨hU, L, hL, hLs, hO⟩ := hO
  obtain ⟨_, hU', A, q, e1, hs⟩ := hy
  injection e1 with e1
  subst e1
  rcases hs L hL with ⟨h5, e2, e3, e4⟩ | ⟨h5, h6, o, h7, h8⟩
  · omega
  · rcases hO with ⟨h9, _⟩ | ⟨hnil, arr, bs', rfl, hb2, harr, hlc, hcap, hw, hv⟩
    · rw [h5] at h9; cases h9
    · have ho := h8 (.inl (by omega))
      injection h7 with h7 h9 h10
      subst h7
      obtain ⟨p1, p2, e5, h11, h12⟩ := VCs.take hw hv (k := i) (by omega)
      obtain ⟨p3, p4, e6, h13, h14⟩ := VCs.take (l := l2.drop i) (fun e he => hw e (List.mem_of_mem_drop he)) h12 (k := k) (by rw [List.length_drop]; omega)
      have h15 := (hfr.sub fun e he => List.mem_of_mem_drop (List.mem_of_mem_take he)).vcs h13
      rw [h15] at h13
      have hsz0 : l2.length * sz ≤ arr.toList.length := by rw [show arr.toList.length = arr.size from Array.length_toList, harr]; exact Nat.mul_le_mul_right _ hlc
      have hle : i * sz + k * sz ≤ l2.length * sz := by rw [← Nat.add_mul]; exact Nat.mul_le_mul_right _ hi
      refine ⟨_, q, _, rfl, h13, ?_, fun j v hj => ?_⟩
      · simp only [List.length_take, List.length_drop]; omega
      · rw [pt_add, ho, hLs]
        rw [List.getElem?_take] at hj
        split at hj
        · rw [List.getElem?_drop, List.getElem?_take] at hj
          split at hj
          · simp only [World.cell?, hb2]
            rw [← Array.getElem?_toList]; exact hj
          · cases hj
        · cases hj
end
section
variable {P : Program} {dst : Option Tmp} {ty t te t2 : TypeId} {pos : String} {after : Array Edge} {g : Option (Nat × Bool)} {x y : Operand} {p q r sz X Y Z : Nat} {l l2 : List AV}
theorem set_self {α : Type} {S : List α} {p : Nat} {z : α} (h : S[p]? = some z) : S.set p z = S := by
  obtain ⟨h5, h6⟩ := List.getElem?_eq_some_iff.1 h
  have h7 := List.set_getElem_self h5
  rw [h6] at h7; exact h7
end
section
variable {ro : Option Nat} {P : Program} {nt p sz X : Nat} {t : TypeId} {l : List AV}
end
end Go.Proofs.Ytfkppbkipbbmaaa

namespace Go.Proofs.Ytfkppbkipbbmaaa
set_option linter.unusedVariables false
open Go.RowKit
section
variable {P : Program} {dst : Option Tmp} {ty t te tx : TypeId} {pos : String} {after : Array Edge} {g : Option (Nat × Bool)} {x y : Operand} {p q r sz X Y Z : Nat} {l : List AV}
end
end Go.Proofs.Ytfkppbkipbbmaaa

namespace Go.Proofs.Ytfkppbkipbbmaaa
set_option linter.unusedVariables false
open Go.RowKit
section
variable {P : Program} {dst : Option Tmp} {ty t te tx : TypeId} {pos : String} {after : Array Edge} {g : Option (Nat × Bool)} {x y : Operand} {p q r sz X Y Z V : Nat} {l l2 : List AV}
end
section
variable {P : Program} {dst : Option Tmp} {ty t te tx ty2 : TypeId} {pos : String} {after : Array Edge} {g : Option (Nat × Bool)} {x y : Operand} {p q r sz X Y Z V by_ : Nat} {l l2 : List AV} {T : List (Nat × AV)} {S : List Slot} {c : Option (List Bool)} {k k' k0 : IntKind} {qi qj : Int}
theorem W.conv (k0 k' : IntKind) {t2 : TypeId} (h1 : P.underlying t = some (.int k0)) (h2 : P.underlying t2 = some (.int k')) (hx : Rd c T x (.prim (.int k qi))) (hw : k'.wrap qi = qi) :
    Stp c P ⟨dst, .convert t t2 x, ty, pos, after, g⟩ T S [(x, .prim (.int k qi))] [] (.prim (.int k' qi)) [] := ⟨.conv h1 h2 hw, .cons hx .nil, .nil⟩
end
end Go.Proofs.Ytfkppbkipbbmaaa

namespace Go.Proofs.Ytfkppbkipbbmaaa
set_option linter.unusedVariables false
section
variable {P : Program} {dst : Option Tmp} {ty t ty2 : TypeId} {pos : String} {after : Array Edge} {g : Option (Nat × Bool)} {T : List (Nat × AV)} {S : List Slot} {c : Option (List Bool)} {x y : Operand}
theorem VCs.prims {m : Mem} : {us : List Value} → {c : List Value} → {bs : List Nat} → VCs m (us.map .prim) c bs → c = us ∧ bs = []
  | [], _, _, ⟨h, k⟩ => ⟨h, k⟩
  | u :: us, _, _, ⟨c1, c2, b1, b2, e1, e2, ⟨⟨h1, _⟩, h2⟩, h3⟩ => by
    obtain ⟨r1, r2⟩ := VCs.prims h3
    rw [e1, e2, h1, h2, r1, r2]
    exact ⟨rfl, rfl⟩
theorem VV.aggP {m : Mem} {us : List Value} {l : List AV} {v : Value} (hl : l = us.map .prim) (h : VV m (.agg l) v []) : v = .agg us.toArray := by
  subst hl
  obtain ⟨cells, e, h⟩ := (show ∃ cells, v = .agg cells ∧ VCs m (us.map .prim) cells.toList [] from h)
  rw [e]
  congr 1
  exact Array.toList_inj.1 (by simpa using h.prims.1)
/-- Equality and inequality of two structs of plain cells. -/
theorem OpT.eqP {us vs : List Value} {l1 l2 : List AV} {r : Bool} (h1 : l1 = us.map .prim) (h2 : l2 = vs.map .prim) (hg : P.eqGuardType P.depth t = false) (h : ∀ w, (binOp .eql t (.agg us.toArray) (.agg vs.toArray)).run P w = .ok (.bool r) w) : OpT P ⟨dst, .binOp .eql t x y ty2, ty, pos, after, g⟩ [(x, .agg l1), (y, .agg l2)] [] (.prim (.bool r)) [] :=
  .pure_ fun m a hx _ => by
    have h1 := (hx (x, .agg l1) (by simp)).aggP h1
    have h2 := (hx (y, .agg l2) (by simp)).aggP h2
    refine ⟨.bool r, ?_, vv_prim _ rfl⟩
    simp only at h1 h2
    simp [execOp, h1, h2, Sem.run_bind, Result.andThen_ok, run_eqGuard_agg _ _ _ _ _ _ _ hg, h]
theorem OpT.neP {us vs : List Value} {l1 l2 : List AV} {r : Bool} (h1 : l1 = us.map .prim) (h2 : l2 = vs.map .prim) (hg : P.eqGuardType P.depth t = false) (h : ∀ w, (binOp .neq t (.agg us.toArray) (.agg vs.toArray)).run P w = .ok (.bool r) w) : OpT P ⟨dst, .binOp .neq t x y ty2, ty, pos, after, g⟩ [(x, .agg l1), (y, .agg l2)] [] (.prim (.bool r)) [] :=
  .pure_ fun m a hx _ => by
    have h1 := (hx (x, .agg l1) (by simp)).aggP h1
    have h2 := (hx (y, .agg l2) (by simp)).aggP h2
    refine ⟨.bool r, ?_, vv_prim _ rfl⟩
    simp only at h1 h2
    simp [execOp, h1, h2, Sem.run_bind, Result.andThen_ok, run_eqGuard_agg _ _ _ _ _ _ _ hg, h]
theorem W.eqP (us vs : List Value) {l1 l2 : List AV} {r : Bool} (hg : P.eqGuardType P.depth t = false) (h : ∀ w, (binOp .eql t (.agg us.toArray) (.agg vs.toArray)).run P w = .ok (.bool r) w) (hx : Rd c T x (.agg l1)) (hy : Rd c T y (.agg l2)) (h1 : l1 = us.map .prim := by rfl) (h2 : l2 = vs.map .prim := by rfl) :
    Stp c P ⟨dst, .binOp .eql t x y ty2, ty, pos, after, g⟩ T S [(x, .agg l1), (y, .agg l2)] [] (.prim (.bool r)) [] := ⟨.eqP h1 h2 hg h, .cons hx (.cons hy .nil), .nil⟩
theorem W.neP (us vs : List Value) {l1 l2 : List AV} {r : Bool} (hg : P.eqGuardType P.depth t = false) (h : ∀ w, (binOp .neq t (.agg us.toArray) (.agg vs.toArray)).run P w = .ok (.bool r) w) (hx : Rd c T x (.agg l1)) (hy : Rd c T y (.agg l2)) (h1 : l1 = us.map .prim := by rfl) (h2 : l2 = vs.map .prim := by rfl) :
    Stp c P ⟨dst, .binOp .neq t x y ty2, ty, pos, after, g⟩ T S [(x, .agg l1), (y, .agg l2)] [] (.prim (.bool r)) [] := ⟨.neP h1 h2 hg h, .cons hx (.cons hy .nil), .nil⟩
end
/-- A struct of a string and two whole numbers. -/
def one3 (P : Program) (t : TypeId) : Bool := match (P.fieldsOf t).toList with
  | [f1, f2, f3] => f1.name != "_" && f2.name != "_" && f3.name != "_" && f1.offset == 0 && f2.offset == 1 && f3.offset == 2 && (match P.underlying f1.type, P.underlying f2.type, P.underlying f3.type with | some .string, some (.int _), some (.int _) => true | _, _, _ => false)
  | _ => false
theorem run_part_i {P : Program} {t : TypeId} {k : IntKind} {xs : Array Value} {off : Nat} {v : Value} (ht : P.underlying t = some (.int k)) (hx : xs[off]? = some v) (w : World) : (part t xs off).run P w = .ok v w := by
  simp [part, isAgg, run_underlying ht, hx, Sem.run_bind, Sem.run_pure, Result.andThen_ok]
theorem run_part_s {P : Program} {t : TypeId} {xs : Array Value} {off : Nat} {v : Value} (ht : P.underlying t = some .string) (hx : xs[off]? = some v) (w : World) : (part t xs off).run P w = .ok v w := by
  simp [part, isAgg, run_underlying ht, hx, Sem.run_bind, Sem.run_pure, Result.andThen_ok]
theorem eq_three {P : Program} {t : TypeId} (h1 : P.underlying t = some (.struct (P.fieldsOf t))) (h2 : P.stoodInHeld t = false) (h : one3 P t = true) (s s' : ByteArray) (a b c d : Int) (w : World) :
    (Op.equalIn 10000 t (.agg #[.string s, .int .i64 a, .int .i64 b]) (.agg #[.string s', .int .i64 c, .int .i64 d])).run P w = .ok (decide (s.toList = s'.toList) && decide (a = c) && decide (b = d)) w := by
  rw [show (10000 : Nat) = 9999 + 1 from rfl, run_equalIn_agg w 9999 t _ _ h1 h2]
  unfold one3 at h
  split at h
  · rename_i f1 f2 f3 hf
    simp only [Bool.and_eq_true, bne_iff_ne, ne_eq, beq_iff_eq] at h
    obtain ⟨⟨⟨⟨⟨⟨n1, n2⟩, n3⟩, o1⟩, o2⟩, o3⟩, hu⟩ := h
    split at hu
    · rename_i k2 k3 u1 u2 u3
      have p1 : ∀ (x : ByteArray) (y z : Int), (part f1.type #[.string x, .int .i64 y, .int .i64 z] f1.offset).run P w = .ok (.string x) w := fun x y z => run_part_s u1 (by rw [o1]; rfl) w
      have p2 : ∀ (x : ByteArray) (y z : Int), (part f2.type #[.string x, .int .i64 y, .int .i64 z] f2.offset).run P w = .ok (.int .i64 y) w := fun x y z => run_part_i u2 (by rw [o2]; rfl) w
      have p3 : ∀ (x : ByteArray) (y z : Int), (part f3.type #[.string x, .int .i64 y, .int .i64 z] f3.offset).run P w = .ok (.int .i64 z) w := fun x y z => run_part_i u3 (by rw [o3]; rfl) w
      have q1 : ∀ x y : ByteArray, (Op.equalIn 9999 f1.type (.string x) (.string y)).run P w = .ok (x.toList == y.toList) w := fun x y => run_equalIn_string (P := P) w 9998 f1.type x y u1
      have q2 : ∀ a c : Int, (Op.equalIn 9999 f2.type (.int .i64 a) (.int .i64 c)).run P w = .ok (a == c) w := fun a c => run_equalIn_int (P := P) w 9998 f2.type .i64 k2 a c u2
      have q3 : ∀ a c : Int, (Op.equalIn 9999 f3.type (.int .i64 a) (.int .i64 c)).run P w = .ok (a == c) w := fun a c => run_equalIn_int (P := P) w 9998 f3.type .i64 k3 a c u3
      rw [hf]
      by_cases e1 : s.toList = s'.toList
      · by_cases e2 : a = c
        · by_cases e3 : b = d
          · simp [Op.eqFields, n1, n2, n3, Sem.run_bind, p1, p2, p3, q1, q2, q3, e1, e2, e3, Sem.run_pure, Sem.run_ite, Result.andThen_ok]
          · simp [Op.eqFields, n1, n2, n3, Sem.run_bind, p1, p2, p3, q1, q2, q3, e1, e2, e3, Sem.run_pure, Sem.run_ite, Result.andThen_ok]
        · simp [Op.eqFields, n1, n2, Sem.run_bind, p1, p2, q1, q2, e1, e2, Sem.run_pure, Sem.run_ite, Result.andThen_ok]
      · simp [Op.eqFields, n1, Sem.run_bind, p1, q1, e1, Sem.run_pure, Sem.run_ite, Result.andThen_ok]
    · cases hu
  · cases h
/-- A struct of two whole numbers. -/
def two2 (P : Program) (t : TypeId) : Bool := match (P.fieldsOf t).toList with
  | [f1, f2] => f1.name != "_" && f2.name != "_" && f1.offset == 0 && f2.offset == 1 && (match P.underlying f1.type, P.underlying f2.type with | some (.int _), some (.int _) => true | _, _ => false)
  | _ => false
theorem run_part_int {P : Program} {t : TypeId} {k : IntKind} {xs : Array Value} {off : Nat} {v : Value} (ht : P.underlying t = some (.int k)) (hx : xs[off]? = some v) (w : World) : (part t xs off).run P w = .ok v w := by
  simp [part, isAgg, run_underlying ht, hx, Sem.run_bind, Sem.run_pure, Result.andThen_ok]
theorem eql_two {P : Program} {t : TypeId} (h1 : P.underlying t = some (.struct (P.fieldsOf t))) (h2 : P.stoodInHeld t = false) (h : two2 P t = true) (a b c d : Int) (w : World) : (binOp .eql t (.agg #[.int .i64 a, .int .i64 b]) (.agg #[.int .i64 c, .int .i64 d])).run P w = .ok (.bool (decide (a = c) && decide (b = d))) w := by
  rw [run_eql_struct, show (10000 : Nat) = 9999 + 1 from rfl, run_equalIn_agg w 9999 t _ _ h1 h2]
  unfold two2 at h
  split at h
  · rename_i f1 f2 hf
    simp only [Bool.and_eq_true, bne_iff_ne, ne_eq, beq_iff_eq] at h
    obtain ⟨⟨⟨⟨n1, n2⟩, o1⟩, o2⟩, hu⟩ := h
    split at hu
    · rename_i k1 k2 u1 u2
      have p1 : ∀ x y : Int, (part f1.type #[.int .i64 x, .int .i64 y] f1.offset).run P w = .ok (.int .i64 x) w := fun x y => run_part_int u1 (by rw [o1]; rfl) w
      have p2 : ∀ x y : Int, (part f2.type #[.int .i64 x, .int .i64 y] f2.offset).run P w = .ok (.int .i64 y) w := fun x y => run_part_int u2 (by rw [o2]; rfl) w
      have q1 : ∀ a c : Int, (Op.equalIn 9999 f1.type (.int .i64 a) (.int .i64 c)).run P w = .ok (a == c) w := fun a c => run_equalIn_int (P := P) w 9998 f1.type .i64 k1 a c u1
      have q2 : ∀ a c : Int, (Op.equalIn 9999 f2.type (.int .i64 a) (.int .i64 c)).run P w = .ok (a == c) w := fun a c => run_equalIn_int (P := P) w 9998 f2.type .i64 k2 a c u2
      rw [hf]
      by_cases e1 : a = c
      · by_cases e2 : b = d
        · simp [Op.eqFields, n1, n2, Sem.run_bind, p1, p2, q1, q2, e1, e2, Sem.run_pure, Sem.run_ite, Result.andThen_ok]
        · simp [Op.eqFields, n1, n2, Sem.run_bind, p1, p2, q1, q2, e1, e2, Sem.run_pure, Sem.run_ite, Result.andThen_ok]
      · simp [Op.eqFields, n1, Sem.run_bind, p1, q1, e1, Sem.run_pure, Sem.run_ite, Result.andThen_ok]
    · cases hu
  · cases h
end Go.Proofs.Ytfkppbkipbbmaaa

namespace Go.Proofs.Ytfkppbkipbbmaaa
set_option linter.unusedVariables false
set_option linter.unusedSimpArgs false
open Go.RowKit
section
variable {P : Program} {m0 m : Mem} {N X Y : Nat} {R : Zs} {ex : List Nat} {t te ty t2 : TypeId} {sz by_ : Nat} {l ls : List AV} {dst : Option Tmp} {pos : String} {after : Array Edge} {g : Option (Nat × Bool)} {x y z u : Operand} {p q : Nat}
theorem loadCells_zero (w : World) (a : Addr) : (loadCells a 0).run P w = .ok #[] w := by
  have := run_loadCells_list (P := P) w a [] (fun j v h => by simp at h)
  simpa using this
/-- A part of a row is appended to its head, in place. -/
theorem OpT.appS {i j k : Nat} (he : tElem P t = some te) (hsz : tSz P te = some sz) (hk : 0 < k) (hi : i + k ≤ l.length) (hj : j + k ≤ l.length) (hfr : FreeL l) (hw2 : ∀ e ∈ l, e.width = sz) :
    OpT P ⟨dst, .call ⟨.builtin .append, #[x, y], #[t, t]⟩, ty, pos, after, g⟩ [(x, .sl X 0 i), (y, .sl X j k)] [(p, (X, .row te sz l))] (.sl X 0 (i + k)) [(p, (X, .row te sz (l.take i ++ (l.drop j).take k ++ l.drop (i + k))))] := by
  intro nt m0 T S ac w hx hS hd hr
  obtain ⟨m, N, Z, rfl, h2, h3, h4⟩ := hr
  have h2' : Z.map (·.1) = S := h2
  have hxa : VV m (.sl X 0 i) (ac.eval x) [] := h4.ev (hx (x, .sl X 0 i) (by simp))
  have hya : VV m (.sl X j k) (ac.eval y) [] := h4.ev (hx (y, .sl X j k) (by simp))
  have hSp := hS (p, (X, .row te sz l)) (by simp)
  rw [← h2', List.getElem?_map] at hSp
  cases hz : Z[p]? with
  | none => rw [hz] at hSp; cases hSp
  | some z =>
    rw [hz] at hSp
    simp only [Option.map_some, Option.some.injEq] at hSp
    obtain ⟨z1, bs⟩ := z
    simp only at hSp
    subst hSp
    obtain ⟨A2, q2, cs, e1, hcs, hcl, hsrc⟩ := src_core (h3.obj _ (List.mem_of_getElem? hz)) hya hk hfr hj
    obtain ⟨R, hp1, hp2⟩ := perm_get hz
    have G1 := h3.perm hp1
    have hO := G1.obj _ (List.mem_cons_self ..)
    obtain ⟨hU, L, hL, hLs, hO⟩ := hO
    obtain ⟨_, hU', A, q, e2, hsl⟩ := hxa
    injection e2 with e2
    rcases hO with ⟨h9, h10, _⟩ | ⟨hnil, arr, bs', rfl, hb2, harr, hlc, hcap, hw, hv⟩
    · subst h10; simp at hi; omega
    rcases hsl L hL with ⟨h5, _, _, _⟩ | ⟨h5, h6, o, h7, h8⟩
    · rw [h5] at hnil; cases hnil
    have ho := h8 (.inr rfl)
    injection h7 with h7 h9 h10
    subst h7
    have hkl : ((l.drop j).take k).length = k := by rw [List.length_take, List.length_drop]; omega
    have hns : ∀ e ∈ (l.drop j).take k, e.width = sz := fun e he => hw2 e (List.mem_of_mem_drop (List.mem_of_mem_take he))
    have hle : i + k ≤ L.cap := by omega
    have hfit : i * sz + cs.length ≤ arr.size := by rw [hcl, harr, ← Nat.add_mul]; exact Nat.mul_le_mul_right _ hle
    obtain ⟨G2, hle2⟩ := Good.over G1 hL h5 rfl hb2 harr hlc hcap hLs hw hv hfr (off := i) (by omega) (by rw [hkl]; exact hle) hns hcs
    rw [hkl] at G2
    have hl := run_loadCells_list (P := P) m.w A2 cs hsrc
    have hst := run_storeCells_at P L.blk (i * sz) te cs 0 arr m.w hb2 (by simpa using hfit) (VCs.ones _ hcs)
    have hu := tElem_spec he
    unfold tSz at hsz
    rw [hcl] at hl
    have hrun : (Builtin.append_ #[t, t] ty #[ac.eval x, ac.eval y]).run P m.w = .ok (.slice (some ⟨L.blk, o, none⟩) (i + k) q) (m.w.setRow L.blk (arr.toList.take (i * sz) ++ cs ++ arr.toList.drop (i * sz + cs.length)).toArray) := by
      rw [show ac.eval y = _ from e1, show ac.eval x = _ from e2, ho]
      cases hq : P.info? te with
      | none => rw [hq] at hsz; cases hsz
      | some inf =>
        rw [hq] at hsz
        injection hsz with hsz
        have hqc : i + k ≤ q := by omega
        have hst' := hst
        simp only [Nat.add_zero] at hst'
        simp [Builtin.append_, run_underlying hu, Builtin.lenOf, Builtin.firstCells, sizeOf, typeInfo, hq, hsz, hl, hqc, pt_add]
        rw [hst', Result.andThen_ok]
        simp
    unfold Oper.wp
    rw [run_builtin]
    simp only [builtin, List.map_toArray, List.map_cons, List.map_nil, Sem.run_bind, hrun, Result.andThen_ok, Sem.run_pure]
    refine ⟨_, N, _, rfl, ?_, G2.perm (hp2 _).symm, (h4.mono hle2).put hd ?_⟩
    · rw [List.map_set, h2']; rfl
    · refine ⟨rfl, hle2.U _ hU, _, _, rfl, fun L' hL' => ?_⟩
      have : m.μ X = some L' := hL'
      rw [hL] at this
      obtain rfl := Option.some.inj this
      exact .inr ⟨h5, by omega, o, by rw [h10], fun _ => ho⟩
/-- Nothing is appended. -/
theorem OpT.app0 {i j : Nat} (he : tElem P t = some te) (hsz : tSz P te = some sz) :
    OpT P ⟨dst, .call ⟨.builtin .append, #[x, y], #[t, t]⟩, ty, pos, after, g⟩ [(x, .sl X 0 i), (y, .sl X j 0)] [(p, (X, .row te sz l))] (.sl X 0 i) [] :=
  .pure_ fun m ac hx hS => by
    obtain ⟨bs, hO⟩ := hS (p, (X, .row te sz l)) (by simp)
    have hxa := hx (x, .sl X 0 i) (by simp)
    have hya := hx (y, .sl X j 0) (by simp)
    refine ⟨ac.eval x, ?_, hxa⟩
    obtain ⟨_, hU', A, q, e2, hsl⟩ := hxa
    obtain ⟨_, _, A2, q2, e3, _⟩ := hya
    injection e2 with e2
    injection e3 with e3
    have hq : i ≤ q := by
      obtain ⟨hU, L, hL, hLs, hO⟩ := hO
      rcases hsl L hL with ⟨_, h5, _, h6⟩ | ⟨h5, h6, o, h7, h8⟩
      · omega
      · injection h7 with h7 h9 h10; omega
    have hu := tElem_spec he
    unfold tSz at hsz
    rw [run_builtin]
    simp only at e2 e3
    cases hqi : P.info? te with
    | none => rw [hqi] at hsz; cases hsz
    | some inf =>
      cases A2 <;> cases A <;> simp [builtin, Builtin.append_, run_underlying hu, Builtin.lenOf, Builtin.firstCells, sizeOf, typeInfo, hqi, e2, e3, hq, loadCells_zero, storeCells, Sem.run_bind, Sem.run_pure, Result.andThen_ok]
/-- An append onto nil: a new row. -/
theorem OpT.app_nil {t' : TypeId} (T : tRow P t = some (te, sz, by_)) (hb : ls.length * by_ ≤ 140737488355328) (hm : ls.length ≤ maxLen) : OpT P ⟨dst, .call ⟨.builtin .append, #[x, y], #[t, t]⟩, ty, pos, after, g⟩ [(x, .prim (.slice none 0 0)), (y, .lst false t' sz ls)] [(q, (Y, .gone))] (.sl Y 0 ls.length) [(q, (Y, .row te sz ls))] := by
  intro nt m0 T' S a w hx hS hd hr
  obtain ⟨m1, N1, Z1, rfl, h2, h3, h4⟩ := hr
  have h2' : Z1.map (·.1) = S := h2
  have hxa := (h4.ev (hx (x, .prim (.slice none 0 0)) (by simp))).prim
  have hya : VV m1 (.lst false t' sz ls) (a.eval y) [] := h4.ev (hx (y, .lst false t' sz ls) (by simp))
  have hSq := hS (q, (Y, .gone)) (by simp)
  rw [← h2', List.getElem?_map] at hSq
  cases hz : Z1[q]? with
  | none => rw [hz] at hSq; cases hSq
  | some z =>
    rw [hz] at hSq
    simp only [Option.map_some, Option.some.injEq] at hSq
    obtain ⟨z1, bsY⟩ := z
    simp only at hSq
    subst hSq
    obtain ⟨R, hp1, hp2⟩ := perm_get hz
    obtain ⟨m, hmw, G, hle0, hvn⟩ := Good.adopt (h3.perm hp1) te sz
    have G' := G.perm (List.Perm.swap ..)
    have hya2 : VV m (.lst false t' sz ls) (a.eval y) [] := hya.mono hle0 (by simp)
    have hvn' : VV m (.sl N1 0 ([] : List AV).length) (.slice none 0 0) [] := hvn
    obtain ⟨xs, bs0, hown, hv, hwl, hbs⟩ := ORel.owns (G'.obj ((N1, .row te sz []), []) (by simp)) hvn'
    obtain ⟨_, A, c, e1, hkc, hws, hrd⟩ := hya2
    injection e1 with e1
    obtain ⟨news, hnl, hnc, hnv⟩ : ∃ news : List Value, news.length = ls.length * sz ∧ (0 < ls.length → ∃ b off, A = some ⟨b, off, none⟩ ∧ ∀ j u, news[j]? = some u → m.w.cell? ⟨b, off + j, none⟩ = some u) ∧ VCs m ls news [] := by
      rcases Nat.eq_zero_or_pos ls.length with h0 | h0
      · have : ls = [] := List.eq_nil_of_length_eq_zero h0
        subst this
        exact ⟨[], by simp, fun h => absurd h (by simp), VCs.nil⟩
      · obtain ⟨b, off, arr, tt, r, hA, hF, hb, hc⟩ := hrd h0
        refine ⟨_, by rw [VCs.len _ hc, widths_of hws], fun _ => ⟨b, off, hA, fun j u hj => ?_⟩, hc⟩
        rw [List.getElem?_take] at hj
        split at hj
        · rw [List.getElem?_drop] at hj
          simp only [World.cell?, hb]
          simpa using hj
        · cases hj
    obtain ⟨v', w', hrun, hown', hg, hat⟩ := run_append_any T m.w ty hown hkc hnl hnc (VCs.ones _ hnv) (by simpa using hb) (by simpa using hm)
    obtain ⟨m', bs', hw', G2, hle, hv'⟩ := Good.app G' hv hnv (fun e he => by rcases List.mem_append.1 he with h | h; exact hwl e h; exact hws e h) hbs hown' hg hat
    have hex : (execOp a.eval ⟨dst, .call ⟨.builtin .append, #[x, y], #[t, t]⟩, ty, pos, after, g⟩).run P m1.w = .ok (.value v') w' := by
      rw [run_builtin, ← hmw]
      simp only [builtin, List.map_toArray, List.map_cons, List.map_nil, e1, show a.eval x = _ from hxa, Sem.run_bind, hrun, Result.andThen_ok, Sem.run_pure]
    unfold Oper.wp
    rw [hex]
    have G3 := G2.sub (List.sublist_cons_self _ _)
    simp only [List.length_nil, Nat.zero_add, List.nil_append] at G3 hv'
    refine ⟨m', N1 + 1, _, hw', ?_, G3.perm (hp2 _).symm, (h4.mono (hle0.trans hle)).put hd hv'⟩
    rw [List.map_set, h2']; rfl
/-- What the elements of a row own is frozen. -/
theorem St.frzRow {nt : Nat} {st : St} {l' : List AV} (he : AV.frzs l = l') (hS : At st.S p (X, .row t sz l)) : St.To nt st fun st' => st' = ⟨st.T, st.S.set p (X, .row t sz l')⟩ := by
  subst he
  intro m0 a w hr
  obtain ⟨m, N, Z, rfl, h2, h3, h4⟩ := hr
  obtain ⟨bs, hz⟩ := hS.z h2
  obtain ⟨R, hp1, hp2⟩ := perm_get hz
  have G := h3.perm hp1
  obtain ⟨hU, L, hL, hLs, hO⟩ := G.obj _ (List.mem_cons_self ..)
  rcases hO with ⟨h5, h6, h7⟩ | ⟨hnil, arr, bs', hbs, hb, harr, hlc, hcap, hw, hv⟩
  · have h6' : l = [] := h6
    subst h6'
    refine ⟨⟨st.T, st.S.set p (X, .row t sz (AV.frzs []))⟩, ⟨m, N, Z, rfl, ?_, h3, h4⟩, rfl⟩
    show Z.map (·.1) = st.S.set p (X, .row t sz [])
    rw [set_self (by rw [← h2, List.getElem?_map, hz]; rfl)]
    exact h2
  · have hbs' : bs = L.blk :: bs' := hbs
    subst hbs'
    have G1 : Good m0 m N (((X, .gone), []) :: R) ([] : List Nat) ∨ True := .inr trivial
    clear G1
    have hp : (Zs.own (((X, AO.row t sz l), L.blk :: bs') :: R) ++ []).Perm (Zs.own (((X, AO.row t sz (AV.frzs l)), [L.blk]) :: R) ++ bs') := by
      simp only [own_cons, List.append_nil]
      rw [List.cons_append, List.singleton_append, List.cons_append]
      exact List.Perm.cons _ List.perm_append_comm
    have hnd := hp.nodup_iff.1 G.own
    have hgb : L.blk ∉ bs' := by
      intro h
      have h1 := List.nodup_append.1 hnd
      exact h1.2.2 L.blk (by simp [own_cons]) L.blk h rfl
    have hle : m.Le { m with F := fun b => m.F b ∨ b ∈ bs' } := ⟨fun _ h => h, fun _ _ _ h => h, fun b hb => ⟨.inl hb, rfl⟩⟩
    have hO' : ORel { m with F := fun b => m.F b ∨ b ∈ bs' } X (.row t sz (AV.frzs l)) [L.blk] :=
      ⟨hU, L, hL, hLs, .inr ⟨hnil, arr, [], rfl, hb, harr, by rw [frzs_len]; exact hlc, hcap, fun e he => by
        rw [frzs_map] at he
        obtain ⟨e', he', rfl⟩ := List.mem_map.1 he
        rw [frz_width]; exact hw e' he', by rw [frzs_len]; exact VCs.frz hle l (fun b hb => ⟨.inr hb, rfl⟩) hv⟩⟩
    have hblk : ∀ b ∈ Zs.own (((X, AO.row t sz (AV.frzs l)), [L.blk]) :: R) ++ bs', b < m.w.heap.size ∧ ¬ m.F b := fun b hb => G.blk b (hp.mem_iff.2 hb)
    have G2 : Good m0 { m with F := fun b => m.F b ∨ b ∈ bs' } N (((X, .row t sz (AV.frzs l)), [L.blk]) :: R) [] := by
      refine ⟨fun z hz' => ?_, ?_, fun b hb' => ?_, fun b hb' => ?_, G.keys, G.keyN, G.usedN, G.le.trans hle, G.os, G.tape, G.output, G.size⟩
      · rcases List.mem_cons.1 hz' with rfl | hz'
        · exact hO'
        · refine ORel.mono hle (fun hg => ?_) (fun L h => h) (fun b hb => rfl) (G.obj z (List.mem_cons_of_mem _ hz'))
          have := G.obj z (List.mem_cons_of_mem _ hz')
          rw [hg] at this
          exact this.2
      · rw [List.append_nil]
        exact (List.nodup_append.1 hnd).1
      · rw [List.append_nil] at hb'
        obtain ⟨k1, k2⟩ := hblk b (List.mem_append_left _ hb')
        refine ⟨k1, ?_⟩
        rintro (h | h)
        · exact k2 h
        · exact (List.nodup_append.1 hnd).2.2 b hb' b h rfl
      · rcases hb' with h | h
        · exact G.frz b h
        · exact (hblk b (List.mem_append_right _ h)).1
    refine ⟨⟨st.T, st.S.set p (X, .row t sz (AV.frzs l))⟩, ⟨{ m with F := fun b => m.F b ∨ b ∈ bs' }, N, Z.set p ((X, .row t sz (AV.frzs l)), [L.blk]), rfl, ?_, G2.perm (hp2 _).symm, h4.mono hle⟩, rfl⟩
    rw [List.map_set]
    show (Z.map (·.1)).set p _ = _
    rw [show Z.map (·.1) = st.S from h2]
/-- A part of a row, up to a place beyond the slice's own end. -/
theorem OpT.slice_lohi {t' : TypeId} {k k' : IntKind} {off n lo hi : Nat} {qi qj : Int} (he : tElem P t = some te) (hsz : tSz P te = some sz) (hq : qi = (lo : Int)) (hq' : qj = (hi : Int)) (hh : lo ≤ hi) (hl : off + hi ≤ l.length) : OpT P ⟨dst, .slice t x (some y) (some z) none, ty, pos, after, g⟩ [(x, .sl X off n), (y, .prim (.int k qi)), (z, .prim (.int k' qj))] [(p, (X, .row t' sz l))] (.sl X (off + lo) (hi - lo)) [] :=
  .pure_ fun m a hx hS => by
    obtain ⟨bs, hU, L, h1, h2, hO⟩ := hS (p, (X, .row t' sz l)) (by simp)
    obtain ⟨_, hU', A, c, e1, h3⟩ := hx (x, .sl X off n) (by simp)
    have hy := (hx (y, .prim (.int k qi)) (by simp)).prim
    have hz := (hx (z, .prim (.int k' qj)) (by simp)).prim
    injection e1 with e1
    simp only at e1 hy hz
    subst hq hq'
    have hlc : l.length ≤ L.cap ∨ (L.isNil = true ∧ l = []) := by
      rcases hO with ⟨h4, h5, _⟩ | ⟨_, _, _, _, _, _, h6, _⟩
      · exact .inr ⟨h4, h5⟩
      · exact .inl h6
    have hcap : hi ≤ c := by
      rcases h3 L h1 with ⟨_, e, e2, e'⟩ | ⟨hnn, h4, o, e, _⟩
      · rcases hO with ⟨_, h5, _⟩ | ⟨h5, _⟩
        · subst h5; simp at hl; omega
        · simp_all
      · injection e with _ _ e
        rcases hlc with h | ⟨h, _⟩
        · omega
        · rw [hnn] at h; cases h
    have hr := run_slice (P := P) (w := m.w) he hsz (A := A) (len := n) (cap := c) (lo := lo) (hi := hi) (vl := some (.int k lo)) (vh := some (.int k' hi)) (fun u hu => ⟨k, by injection hu with hu; exact hu.symm⟩) (by simp) (fun u hu => ⟨k', by injection hu with hu; exact hu.symm⟩) (by simp) hh hcap
    refine ⟨_, by simp only [execOp, Option.map_none, Option.map_some, e1, hy, hz, Sem.run_bind, hr, Result.andThen_ok]; rfl, rfl, hU', _, _, rfl, fun L' hL' => ?_⟩
    rw [h1] at hL'; injection hL' with hL'; subst hL'
    rcases h3 L h1 with ⟨h5, e, e2, e3⟩ | ⟨h5, h4, o, e, h6⟩
    · injection e with e4 e5 e6
      subst e4 e6
      have : hi = 0 := by omega
      subst this
      have : lo = 0 := by omega
      subst this
      exact .inl ⟨h5, by simp, by omega, by omega⟩
    · injection e with e4 e5 e6
      subst e4 e6
      simp only [Option.map_some]
      have hlc' : l.length ≤ L.cap := by
        rcases hlc with h | ⟨h, _⟩
        · exact h
        · rw [h5] at h; cases h
      by_cases hc : lo < L.cap - off
      · refine .inr ⟨h5, by omega, o + lo * sz, ?_, fun _ => ?_⟩
        · rw [if_neg (by omega), pt_add]
          congr 1
          omega
        · rw [h6 (.inl (by omega)), h2, Nat.add_mul]
      · have hlo : lo = L.cap - off := by omega
        refine .inr ⟨h5, by omega, o, by rw [if_pos hlo.symm]; congr 1; omega, fun h => ?_⟩
        rcases h with h | h
        · omega
        · have h0 : off = 0 := by omega
          subst h0
          rw [h6 (.inr rfl)]
          have : lo = 0 := by omega
          subst this
          simp
/-- A check of bounds: the slice is not used. -/
theorem OpT.slice3 {t' : TypeId} {k k' k2 : IntKind} {off n lo hi mx : Nat} {qi qj qm : Int} (he : tElem P t = some te) (hsz : tSz P te = some sz) (hq : qi = (lo : Int)) (hq' : qj = (hi : Int)) (hqm : qm = (mx : Int)) (hh : lo ≤ hi) (hm : hi ≤ mx) (hl : mx ≤ n) : OpT P ⟨dst, .slice t x (some y) (some z) (some u), ty, pos, after, g⟩ [(x, .sl X off n), (y, .prim (.int k qi)), (z, .prim (.int k' qj)), (u, .prim (.int k2 qm))] [(p, (X, .row t' sz l))] .dead [] :=
  .pure_ fun m a hx hS => by
    obtain ⟨bs, hU, L, h1, h2, hO⟩ := hS (p, (X, .row t' sz l)) (by simp)
    obtain ⟨_, hU', A, c, e1, h3⟩ := hx (x, .sl X off n) (by simp)
    have hy := (hx (y, .prim (.int k qi)) (by simp)).prim
    have hz := (hx (z, .prim (.int k' qj)) (by simp)).prim
    have hu := (hx (u, .prim (.int k2 qm)) (by simp)).prim
    injection e1 with e1
    simp only at e1 hy hz hu
    subst hq hq' hqm
    have hcap : n ≤ c := by
      rcases h3 L h1 with ⟨_, e, _, e'⟩ | ⟨_, h4, o, e, _⟩
      · omega
      · injection e with _ _ e; omega
    have hte := tElem_spec he
    unfold tSz at hsz
    cases hqi : P.info? te with
    | none => rw [hqi] at hsz; cases hsz
    | some inf =>
      have b1 : (0 : Int) ≤ mx ∧ (mx : Int) ≤ c := ⟨by omega, by omega⟩
      have b2 : (0 : Int) ≤ hi ∧ (hi : Int) ≤ mx := ⟨by omega, by omega⟩
      have b3 : (0 : Int) ≤ lo ∧ (lo : Int) ≤ hi := ⟨by omega, by omega⟩
      have n1 : mx ≤ c := by omega
      exact ⟨_, by simp [n1, hm, hh, execOp, e1, hy, hz, hu, Instr.sliceAt, Instr.slice, Instr.sliceBounds, Instr.sliceBound, asIntOf, run_underlying hte, sizeOf, typeInfo, hqi, b1, b2, b3, Sem.run_bind, Sem.run_pure, Result.andThen_ok]; rfl, rfl⟩
end
end Go.Proofs.Ytfkppbkipbbmaaa

namespace Go.Proofs.Ytfkppbkipbbmaaa
set_option linter.unusedVariables false
set_option linter.unusedSimpArgs false
open Go.RowKit
section
variable {P : Program} {ro : Option Nat} {nt : Nat} {ops : Array Oper} {Q : Exit → St → Prop} {rest : List Oper} {T : List (Nat × AV)} {S : List Slot} {ty t te t2 t' ty2 : TypeId} {pos : String} {after : Array Edge} {dst : Option Tmp} {c : Option (List Bool)} {g : Option (Nat × Bool)} {x y z u : Operand} {X Y p q sz by_ : Nat} {l ls : List AV} {cd : Code}
theorem bytes_app (a b : List UInt8) : (⟨a.toArray⟩ : ByteArray) ++ (⟨b.toArray⟩ : ByteArray) = ⟨(a ++ b).toArray⟩ := by
  apply ByteArray.ext
  rw [ByteArray.data_append]
  simp
theorem OpT.add_str {a b : List UInt8} (hl : a.length + b.length ≤ 1099511627776) : OpT P ⟨dst, .binOp .add t x y ty2, ty, pos, after, g⟩ [(x, .prim (strA a)), (y, .prim (strA b))] [] (.prim (strA (a ++ b))) [] :=
  run_binOp rfl (fun w => by
    have h1 : (⟨a.toArray⟩ : ByteArray).size = a.length := rfl
    have h2 : (⟨b.toArray⟩ : ByteArray).size = b.length := rfl
    have h3 : (a.length : Int) + (b.length : Int) ≤ 9223372036854775807 := by omega
    simp [binOp, Op.stringOp, Sem.run_pure, strA, bytes_app, h1, h2, h3]) (.inl ⟨by simp, by simp⟩)
theorem fold_bytes (bs : List UInt8) : ∀ r : List UInt8, (bs.map fun b => ((b.toNat : Nat) : Int)).foldl (fun r n => r.push (UInt8.ofNat n.toNat)) (⟨r.toArray⟩ : ByteArray) = ⟨(r ++ bs).toArray⟩ := by
  induction bs with
  | nil => intro r; simp
  | cons b bs ih =>
    intro r
    have e : (⟨r.toArray⟩ : ByteArray).push (UInt8.ofNat ((b.toNat : Nat) : Int).toNat) = ⟨(r ++ [b]).toArray⟩ := by
      apply ByteArray.ext
      simp [ByteArray.push]
    rw [List.map_cons, List.foldl_cons, e, ih]
    simp
theorem OpT.bytesStr {bs : List UInt8} (hs : P.underlying t = some (.slice te)) (he : P.underlying te = some (.int .u8)) (hd : P.underlying t2 = some .string) (hsz : 0 < bs.length) : OpT P ⟨dst, .convert t t2 x, ty, pos, after, g⟩ [(x, .lst false t' 1 (bs.map fun b => .prim (.int .u8 ((b.toNat : Nat) : Int))))] [] (.prim (strA bs)) [] :=
  .pure_ fun m a hx _ => by
    obtain ⟨_, A, cap, e1, hlc, hw, hr⟩ := hx (x, .lst false t' 1 (bs.map fun b => .prim (.int .u8 ((b.toNat : Nat) : Int)))) (by simp)
    injection e1 with e1
    rw [List.length_map] at e1 hr
    obtain ⟨b, off, arr, tt, r, rfl, hF, hb, hv⟩ := hr hsz
    have hcells : (arr.toList.drop off).take (bs.length * 1) = (bs.map fun b => ((b.toNat : Nat) : Int)).map (Value.int .u8) := by
      have h2 := (VCs.prims (us := (bs.map fun b => ((b.toNat : Nat) : Int)).map (Value.int .u8)) (by rw [List.map_map, List.map_map]; exact hv)).1
      exact h2
    have hload : (loadCells ⟨b, off, none⟩ bs.length).run P m.w = .ok ((bs.map fun b => ((b.toNat : Nat) : Int)).map (Value.int .u8)).toArray m.w := by
      have := run_loadCells_list (P := P) m.w ⟨b, off, none⟩ ((bs.map fun b => ((b.toNat : Nat) : Int)).map (Value.int .u8)) (fun j v hj => by
        rw [← hcells, List.getElem?_take] at hj
        split at hj
        · rw [List.getElem?_drop] at hj
          rw [pt_add]
          simp only [World.cell?, hb]
          simpa using hj
        · cases hj)
      simpa using this
    refine ⟨.string ⟨bs.toArray⟩, ?_, vv_prim _⟩
    simp only [execOp, show a.eval x = _ from e1, Sem.run_bind, run_convert_bytes_string m.w t t2 te _ _ _ hs he hd, run_bytesToString m.w _ _ _ _ hload, Result.andThen_ok, Sem.run_pure]
    have := fold_bytes bs []
    simp only [List.nil_append] at this
    rw [show (ByteArray.empty) = (⟨([] : List UInt8).toArray⟩ : ByteArray) from rfl, this]
theorem W.addS {a b : List UInt8} (hl : a.length + b.length ≤ 1099511627776) (hx : Rd c T x (.prim (strA a))) (hy : Rd c T y (.prim (strA b))) : Stp c P ⟨dst, .binOp .add t x y ty2, ty, pos, after, g⟩ T S [(x, .prim (strA a)), (y, .prim (strA b))] [] (.prim (strA (a ++ b))) [] := ⟨.add_str hl, .cons hx (.cons hy .nil), .nil⟩
theorem W.bytesStr (bs : List UInt8) {l : List AV} (hs : P.underlying t = some (.slice te)) (he : P.underlying te = some (.int .u8)) (hd : P.underlying t2 = some .string) (h0 : 0 < bs.length) (hx : Rd c T x (.lst false t' 1 l)) (hl : l = bs.map fun b => .prim (.int .u8 ((b.toNat : Nat) : Int))) : Stp c P ⟨dst, .convert t t2 x, ty, pos, after, g⟩ T S [(x, .lst false t' 1 l)] [] (.prim (strA bs)) [] := by
  subst hl
  exact ⟨.bytesStr hs he hd h0, .cons hx .nil, .nil⟩
theorem W.appS {i j : Nat} (n : Nat) [TEl P t te] [TSize P te sz] (h0 : 0 < n) (hi : i + n ≤ l.length) (hj : j + n ≤ l.length) (hfr : FreeL l) (hw2 : ∀ e ∈ l, e.width = sz) (hx : Rd c T x (.sl X 0 i)) (hy : Rd c T y (.sl X j n)) (hSp : At S p (X, .row te sz l)) :
    Stp c P ⟨dst, .call ⟨.builtin .append, #[x, y], #[t, t]⟩, ty, pos, after, g⟩ T S [(x, .sl X 0 i), (y, .sl X j n)] [(p, (X, .row te sz l))] (.sl X 0 (i + n)) [(p, (X, .row te sz (l.take i ++ (l.drop j).take n ++ l.drop (i + n))))] :=
  ⟨.appS TEl.h TSize.h h0 hi hj hfr hw2, .cons hx (.cons hy .nil), .cons hSp .nil⟩
theorem W.app0 {i j : Nat} [TEl P t te] [TSize P te sz] (hx : Rd c T x (.sl X 0 i)) (hy : Rd c T y (.sl X j 0)) (hSp : At S p (X, .row te sz l)) :
    Stp c P ⟨dst, .call ⟨.builtin .append, #[x, y], #[t, t]⟩, ty, pos, after, g⟩ T S [(x, .sl X 0 i), (y, .sl X j 0)] [(p, (X, .row te sz l))] (.sl X 0 i) [] :=
  ⟨.app0 TEl.h TSize.h, .cons hx (.cons hy .nil), .cons hSp .nil⟩
theorem W.appN [TRo P t te sz by_] (hb : ls.length * by_ ≤ 140737488355328) (hm : ls.length ≤ maxLen) (hx : Rd c T x (.prim (.slice none 0 0))) (hy : Rd c T y (.lst false t' sz ls)) (hSq : At S q (Y, .gone)) :
    Stp c P ⟨dst, .call ⟨.builtin .append, #[x, y], #[t, t]⟩, ty, pos, after, g⟩ T S [(x, .prim (.slice none 0 0)), (y, .lst false t' sz ls)] [(q, (Y, .gone))] (.sl Y 0 ls.length) [(q, (Y, .row te sz ls))] :=
  ⟨.app_nil TRo.h hb hm, .cons hx (.cons hy .nil), .cons hSq .nil⟩
theorem W.lohi {k k' : IntKind} {off n lo hi : Nat} {qi qj : Int} [TEl P t te] [TSize P te sz] (hx : Rd c T x (.sl X off n)) (hy : Rd c T y (.prim (.int k qi))) (hz : Rd c T z (.prim (.int k' qj))) (hSp : At S p (X, .row t' sz l)) (hq : qi = (lo : Int)) (hq' : qj = (hi : Int)) (hh : lo ≤ hi) (hl : off + hi ≤ l.length) :
    Stp c P ⟨dst, .slice t x (some y) (some z) none, ty, pos, after, g⟩ T S [(x, .sl X off n), (y, .prim (.int k qi)), (z, .prim (.int k' qj))] [(p, (X, .row t' sz l))] (.sl X (off + lo) (hi - lo)) [] :=
  ⟨.slice_lohi TEl.h TSize.h hq hq' hh hl, .cons hx (.cons hy (.cons hz .nil)), .cons hSp .nil⟩
theorem W.slice3 {k k' k2 : IntKind} {off n lo hi mx : Nat} {qi qj qm : Int} [TEl P t te] [TSize P te sz] (hx : Rd c T x (.sl X off n)) (hy : Rd c T y (.prim (.int k qi))) (hz : Rd c T z (.prim (.int k' qj))) (hu : Rd c T u (.prim (.int k2 qm))) (hSp : At S p (X, .row t' sz l)) (hq : qi = (lo : Int)) (hq' : qj = (hi : Int)) (hqm : qm = (mx : Int)) (hh : lo ≤ hi) (hm : hi ≤ mx) (hl : mx ≤ n) :
    Stp c P ⟨dst, .slice t x (some y) (some z) (some u), ty, pos, after, g⟩ T S [(x, .sl X off n), (y, .prim (.int k qi)), (z, .prim (.int k' qj)), (u, .prim (.int k2 qm))] [(p, (X, .row t' sz l))] .dead [] :=
  ⟨.slice3 TEl.h TSize.h hq hq' hqm hh hm hl, .cons hx (.cons hy (.cons hz (.cons hu .nil))), .cons hSp .nil⟩
theorem AWP.frzRow (X : Nat) (l' : List AV) (he : AV.frzs l = l') (k : AWP ro P nt cd Q ⟨T, S.set p (X, .row t sz l')⟩) (hS : At S p (X, .row t sz l) := by exact At.f) : AWP ro P nt cd Q ⟨T, S⟩ :=
  .ghost (St.frzRow (st := ⟨T, S⟩) he hS) fun st' e => by subst e; exact k
theorem AOps.frzRow (X : Nat) (l' : List AV) (he : AV.frzs l = l') (k : AOps ro P nt ops Q rest ⟨T, S.set p (X, .row t sz l')⟩) (hS : At S p (X, .row t sz l) := by exact At.f) : AOps ro P nt ops Q rest ⟨T, S⟩ :=
  .ghost (St.frzRow (st := ⟨T, S⟩) he hS) fun st' e => by subst e; exact k
end
end Go.Proofs.Ytfkppbkipbbmaaa

namespace Go.Proofs.Ytfkppbkipbbmaaa
set_option linter.unusedVariables false
mutual
/-- What reads as the first value reads as the second one, too; inside structs and lists. -/
inductive Dn : AV → AV → Prop
  | same {a : AV} : Dn a a
  | nil {t : TypeId} {sz : Nat} : Dn (.prim (.slice none 0 0)) (.lst false t sz [])
  | agg {as bs : List AV} (h : Dns as bs) : Dn (.agg as) (.agg bs)
  | lst {t : TypeId} {sz : Nat} {as bs : List AV} (h : Dns as bs) : Dn (.lst false t sz as) (.lst false t sz bs)
inductive Dns : List AV → List AV → Prop
  | nil : Dns [] []
  | cons {a b : AV} {as bs : List AV} (h : Dn a b) (k : Dns as bs) : Dns (a :: as) (b :: bs)
end
mutual
theorem Dn.wd : {a b : AV} → Dn a b → b.width = a.width
  | _, _, .same => rfl
  | _, _, .nil => rfl
  | _, _, .agg h => by
    have := Dns.wds h
    simpa [AV.width] using this
  | _, _, .lst h => rfl
theorem Dns.wds : {a b : List AV} → Dns a b → AV.widths b = AV.widths a
  | _, _, .nil => rfl
  | _, _, .cons h k => by
    have h1 := Dn.wd h
    have h2 := Dns.wds k
    simp [AV.widths, h1, h2]
end
theorem Dns.len : {a b : List AV} → Dns a b → b.length = a.length
  | _, _, .nil => rfl
  | _, _, .cons h k => by simp [Dns.len k]
theorem Dns.wsz {sz : Nat} : {a b : List AV} → Dns a b → (∀ e ∈ a, e.width = sz) → ∀ e ∈ b, e.width = sz
  | _, _, .nil, _, e, he => by cases he
  | _, _, .cons h k, hw, e, he => by
    rcases List.mem_cons.1 he with rfl | he
    · rw [Dn.wd h]; exact hw _ (List.mem_cons_self ..)
    · exact Dns.wsz k (fun e he => hw e (List.mem_cons_of_mem _ he)) e he
mutual
theorem Dn.vc {m : Mem} : {a b : AV} → Dn a b → ∀ {c : List Value}, VC m a c [] → VC m b c []
  | _, _, .same, c, h => h
  | _, _, .nil, c, h => by
    obtain ⟨⟨rfl, _⟩, _⟩ := h
    exact ⟨rfl, none, 0, rfl, Nat.le_refl _, fun e he => (by cases he), fun h0 => absurd h0 (by simp)⟩
  | _, _, .agg h, c, k => Dns.vcs h k
  | _, _, .lst h, c, k => by
    obtain ⟨k1, A, cap, k2, k3, k4, k5⟩ := k
    refine ⟨k1, A, cap, by rw [Dns.len h]; exact k2, by rw [Dns.len h]; exact k3, Dns.wsz h k4, fun h0 => ?_⟩
    rw [Dns.len h] at h0
    obtain ⟨b, off, arr, t, r, j1, j2, j3, j4⟩ := k5 h0
    refine ⟨b, off, arr, t, r, j1, j2, j3, ?_⟩
    rw [Dns.len h]
    exact Dns.vcs h j4
theorem Dns.vcs {m : Mem} : {a b : List AV} → Dns a b → ∀ {c : List Value}, VCs m a c [] → VCs m b c []
  | _, _, .nil, c, h => h
  | _, _, .cons h k, c, j => by
    obtain ⟨c1, c2, b1, b2, rfl, e, j1, j2⟩ := j
    obtain ⟨rfl, rfl⟩ : b1 = [] ∧ b2 = [] := by simpa using e.symm
    exact ⟨c1, c2, [], [], rfl, rfl, Dn.vc h j1, Dns.vcs k j2⟩
end
theorem Dns.vts {m : Mem} {as bs : List AV} (h : Dns as bs) : ∀ {us : List Value}, VTs m as us [] → VTs m bs us [] := by
  induction as generalizing bs with
  | nil => cases h; exact fun h => h
  | cons a as ih =>
    cases h with
    | @cons _ b _ bs h k =>
    intro us hv
    obtain ⟨v, vs', b1, b2, rfl, e, h1, h2⟩ := (VTs_cons hv.ntup).1 hv
    obtain ⟨rfl, rfl⟩ : b1 = [] ∧ b2 = [] := by simpa using e.symm
    cases h with
    | same => exact (VTs_cons hv.ntup).2 ⟨v, vs', [], [], rfl, rfl, h1, ih k h2⟩
    | @nil t sz => exact (VTs_cons rfl).2 ⟨v, vs', [], [], rfl, rfl, Dn.vc (c := [v]) (@Dn.nil t sz) h1, ih k h2⟩
    | agg h3 =>
      obtain ⟨cells, rfl, h4⟩ := h1
      exact (VTs_cons rfl).2 ⟨_, vs', [], [], rfl, rfl, ⟨cells, rfl, Dns.vcs h3 h4⟩, ih k h2⟩
    | @lst t sz as1 bs1 h3 => exact (VTs_cons rfl).2 ⟨v, vs', [], [], rfl, rfl, Dn.vc (c := [v]) (@Dn.lst t sz as1 bs1 h3) h1, ih k h2⟩
theorem Spec.argD {P : Program} {f : FuncId} {args args' : List AV} {S : List Slot} {Q : AV → List Slot → Prop} (h : Spec P f args S Q) (k : Dns args' args) : Spec P f args' S Q :=
  ⟨h.fn, fun Sf m N Z vals h1 h2 h3 => h.run Sf m N Z vals h1 h2 (k.vts h3)⟩
theorem PS.argD {P : Program} {f : FuncId} {args args' : List AV} {r : AV} (h : PS P f args r) (k : Dns args' args) : PS P f args' r := Spec.argD h k
section
variable {ro : Option Nat} {P : Program} {nt : Nat} {ops : Array Oper} {Q : Exit → St → Prop} {rest : List Oper} {T : List (Nat × AV)} {S : List Slot} {ty t te : TypeId} {sz : Nat} {x y : Operand} {pos : String} {after : Array Edge} {dst : Option Tmp}
end
end Go.Proofs.Ytfkppbkipbbmaaa

namespace Go.Proofs.Ytfkppbkipbbmaaa
set_option linter.unusedVariables false
theorem Ends.cv {P : Program} {res : List ResultVar} {Sf : List Slot} {st : St} {r : AV} {S1 : List Slot} (rs rs' : List AV) (c : CVs st.S rs rs' S1) (e : packR rs' = r := by rfl) (h : ResVs P st res rs := by (repeat (first | exact .nil | refine .cons (.tmp (by rfl)) (by rfl) ?_ | refine .cons (.cell (by rfl) (by exact At.f) TAg.h TSize.h (by exact rfl) (by exact rfl)) (by rfl) ?_))) (hS : Sf.Sublist S1 := by exact Sub.f) : Ends P res Sf (fun r' S' => r' = r ∧ S' = []) st := ⟨rs, rs', S1, [], h, c, hS, e, rfl⟩
end Go.Proofs.Ytfkppbkipbbmaaa

/-
  Operations over abstract values: stores, literals, made slices, parts of slices. No conditions.
-/
import Derived.Test.YtcfleoaldoebhaaAbs7
namespace Go.Proofs.Ytcfleoaldoebhaa
set_option linter.unusedVariables false
set_option linter.unusedSimpArgs false
open Go.RowKit

def putPart (e : AV) (k : Nat) (v : AV) : AV := match e with
  | .agg cs => .agg (cs.take k ++ v.cells ++ cs.drop (k + v.cells.length))
  | _ => v
def putOk (e : AV) (k n : Nat) (v : AV) : Bool := flat e.cells && flat v.cells && Nat.beq v.cells.length n && Nat.ble (k + n) e.cells.length && v.stor && Nat.ble 1 n

section
variable {P : Program} {m0 m : Mem} {N : Nat} {R : Zs} {ex : List Nat} {X : Nat} {t : TypeId} {sz : Nat} {l : List AV}
variable {o : Oper} {v : AV} {x y z : Operand} {ty ty2 t' : TypeId} {pos : String} {after : Array Edge} {g : Option (Nat × Bool)} {dst : Option Tmp} {xs : List (Operand × AV)} {p : Nat}
theorem flat_widths {cs : List AV} (h : flat cs = true) : AV.widths cs = cs.length := by rw [widths_of (sz := 1) (flat_spec h)]; omega
theorem flat_app {a b : List AV} : flat (a ++ b) = (flat a && flat b) := by
  induction a with
  | nil => rfl
  | cons c a ih => simp [flat, ih, Bool.and_assoc]
/-- One part of a value is put anew. -/
theorem putPart_spec {e : AV} {k n : Nat} (h : putOk e k n v = true) {c d : List Value} {bs : List Nat} (hc : VC m e c bs) (hd : VCs m v.cells d []) : d.length = n ∧ k + n ≤ c.length ∧ (putPart e k v).width = e.width ∧ ∃ bs', VC m (putPart e k v) (c.take k ++ d ++ c.drop (k + n)) bs' ∧ (∀ b ∈ bs', b ∈ bs) ∧ (bs.Nodup → bs'.Nodup) := by
  simp only [putOk, Bool.and_eq_true] at h
  obtain ⟨⟨⟨⟨⟨h1, h2⟩, h3⟩, h4⟩, h5⟩, h6⟩ := h
  have h6 := Nat.le_of_ble_eq_true h6
  have h3 := Nat.eq_of_beq_eq_true h3
  have h4 := Nat.le_of_ble_eq_true h4
  have hdl : d.length = n := by rw [VCs.len _ hd, flat_widths h2, h3]
  have hcl : c.length = e.cells.length := by rw [VCs.len _ hc.cells, flat_widths h1]
  refine ⟨hdl, by omega, ?_⟩
  have ht : (∃ cs, e = .agg cs) ∨ (e.cells = [e] ∧ putPart e k v = v ∧ e.width = 1) := by
    cases e with
    | agg cs => exact .inl ⟨cs, rfl⟩
    | _ => exact .inr ⟨rfl, rfl, rfl⟩
  rcases ht with ⟨cs, rfl⟩ | ⟨he, hpp, hew⟩
  · have hw := flat_spec h1
    simp only [AV.cells] at hw h4 hcl hc h1
    obtain ⟨p1, p2, rfl, ha, hb⟩ := VCs.take (sz := 1) hw hc.cells (k := k) (by omega)
    obtain ⟨q1, q2, rfl, _, hb2⟩ := VCs.take (sz := 1) (l := cs.drop k) (fun e he => hw e (List.mem_of_mem_drop he)) hb (k := n) (by rw [List.length_drop]; omega)
    simp only [Nat.mul_one, List.drop_drop] at ha hb2
    refine ⟨?_, p1 ++ [] ++ q2, ?_, fun b hb => by simp at hb ⊢; rcases hb with h | h <;> simp [h], fun hn => ?_⟩
    · show AV.widths _ = AV.widths cs
      rw [widths_app, widths_app, flat_widths h2, flat_widths h1, widths_of (sz := 1) fun e he => hw e (List.mem_of_mem_take he), widths_of (sz := 1) fun e he => hw e (List.mem_of_mem_drop he)]
      simp only [List.length_take, List.length_drop]
      omega
    · show VCs m (cs.take k ++ v.cells ++ cs.drop (k + v.cells.length)) _ _
      rw [h3]
      exact (ha.append hd).append hb2
    · rw [List.append_nil]
      rw [← List.append_assoc] at hn
      obtain ⟨h6, h7, h8⟩ := List.nodup_append.1 hn
      exact List.nodup_append.2 ⟨(List.nodup_append.1 h6).1, h7, fun a ha b hb => h8 a (by simp [ha]) b hb⟩
  · rw [he, List.length_singleton] at h4 hcl
    have hv : VC m v d [] := by
      cases v with
      | agg cs => exact hd
      | _ => exact VCs.one.1 hd
    have hvw : v.width = n := by rw [← VC.len _ hv, hdl]
    obtain rfl : n = 1 := by omega
    obtain rfl : k = 0 := by omega
    rw [hpp, hew, List.take_zero, List.nil_append, List.drop_of_length_le (by omega), List.append_nil]
    exact ⟨hvw, [], hv, (fun b hb => by simp at hb), fun _ => List.nodup_nil⟩

theorem row_split {e : AV} {i k : Nat} {c1 c2 c3 rest vs : List Value} (h1 : c1.length = i) (hk : k + vs.length ≤ c2.length) :
    ((c1 ++ c2 ++ c3 ++ rest).take (i + k) ++ vs ++ (c1 ++ c2 ++ c3 ++ rest).drop (i + k + vs.length)) = c1 ++ (c2.take k ++ vs ++ c2.drop (k + vs.length)) ++ c3 ++ rest := by
  subst h1
  have e1 : (c1 ++ c2 ++ c3 ++ rest).take (c1.length + k) = c1 ++ c2.take k := by
    rw [List.append_assoc, List.append_assoc, List.take_length_add_append, List.take_append_of_le_length (by omega)]
  have e2 : (c1 ++ c2 ++ c3 ++ rest).drop (c1.length + k + vs.length) = c2.drop (k + vs.length) ++ c3 ++ rest := by
    rw [Nat.add_assoc, List.append_assoc, List.append_assoc, List.drop_length_add_append, List.drop_append_of_le_length (by omega), List.append_assoc]
  rw [e1, e2]
  simp
theorem OpT.store {i k n : Nat} {e : AV} (hn : tSz P t = some n) (hi : l[i]? = some e) (hp : putOk e k n v = true) : OpT P ⟨dst, .store t x y, ty, pos, after, g⟩ [(x, .ptr X i k), (y, v)] [(p, (X, .row t' sz l))] .dead [(p, (X, .row t' sz (l.set i (putPart e k v))))] := by
  intro nt m0 T S a w hx hS hd hr
  obtain ⟨m, N, Z, rfl, h2, h3, h4⟩ := hr
  have h2' : Z.map (·.1) = S := h2
  have hxa : VV m (.ptr X i k) (a.eval x) [] := h4.ev (hx (x, .ptr X i k) (by simp))
  have hya : VV m v (a.eval y) [] := h4.ev (hx (y, v) (by simp))
  have hSp := hS (p, (X, .row t' sz l)) (by simp)
  rw [← h2', List.getElem?_map] at hSp
  cases hz : Z[p]? with
  | none => rw [hz] at hSp; cases hSp
  | some z =>
    rw [hz] at hSp
    simp only [Option.map_some, Option.some.injEq] at hSp
    obtain ⟨z1, bs⟩ := z
    simp only at hSp
    subst hSp
    obtain ⟨R, hp1, hp2⟩ := perm_get hz
    have G := h3.perm hp1
    have hO := G.obj _ (List.mem_cons_self ..)
    have hbs : bs.Nodup := by
      have := G.own
      rw [own_cons, List.append_assoc] at this
      exact (List.nodup_append.1 this).1
    obtain ⟨hU, L, hL, hsz, hO⟩ := hO
    have hil : i < l.length := (List.getElem?_eq_some_iff.1 hi).1
    rcases hO with ⟨_, rfl, _⟩ | ⟨hnil, arr, bs0, rfl, hb, harr, hlc, hcap, hw, hv⟩
    · simp at hil
    · obtain ⟨c1, c2, c3, p1, p2, p3, hc, hpp, hl1, hl2, ha1, ha2, ha3⟩ := hv.get hw hil
      have he : l[i] = e := (List.getElem?_eq_some_iff.1 hi).2
      rw [he] at ha2
      have hstor : v.stor = true := by simp only [putOk, Bool.and_eq_true] at hp; exact hp.1.2
      obtain ⟨hvc, hone⟩ := VV.cells hya hstor
      obtain ⟨hdl, hkl, hpw, bs', hpv, hsub, hnd⟩ := putPart_spec hp ha2 hvc
      obtain ⟨_, _, A, e1, hptr⟩ := hxa
      injection e1 with e1
      rw [hptr L hL, hsz] at e1
      -- the row
      obtain ⟨rest, hrest⟩ : ∃ rest, arr.toList = c1 ++ c2 ++ c3 ++ rest := ⟨arr.toList.drop (l.length * sz), by rw [← hc, List.take_append_drop]⟩
      have hlen : i * sz + k + (a.eval y).cells.toList.length ≤ arr.size := by
        have := congrArg List.length hrest
        simp only [List.length_append, Array.length_toList] at this
        omega
      have hst := run_storeCells_at P L.blk (i * sz + k) t' (a.eval y).cells.toList 0 arr m.w hb (by simpa using hlen) hone
      simp only [Nat.add_zero] at hst
      have hrow := row_split (e := e) (k := k) (c2 := c2) (c3 := c3) (rest := rest) (vs := (a.eval y).cells.toList) hl1 (by omega)
      rw [hrest, hrow] at hst
      have hsize : (c2.take k ++ (a.eval y).cells.toList ++ c2.drop (k + n)).length = sz := by
        rw [VC.len _ hpv, hpw, ← VC.len _ ha2, hl2]
      have harr' : (c1 ++ (c2.take k ++ (a.eval y).cells.toList ++ c2.drop (k + (a.eval y).cells.toList.length)) ++ c3 ++ rest).toArray.size = L.cap * sz := by
        have h1 := congrArg List.length hrest
        simp only [Array.length_toList, harr] at h1
        rw [hdl]
        simp only [List.size_toArray]
        rw [h1]
        simp only [List.length_append] at hsize ⊢
        omega
      have hlset : (l.set i (putPart e k v)).length = l.length := List.length_set ..
      have htake : (c1 ++ (c2.take k ++ (a.eval y).cells.toList ++ c2.drop (k + (a.eval y).cells.toList.length)) ++ c3 ++ rest).toArray.toList.take ((l.set i (putPart e k v)).length * sz) = c1 ++ (c2.take k ++ (a.eval y).cells.toList ++ c2.drop (k + n)) ++ c3 := by
        rw [hlset, hdl]
        have h1 := congrArg List.length hc
        simp only [List.length_take, Array.length_toList, harr] at h1
        have h0 : l.length * sz ≤ L.cap * sz := Nat.mul_le_mul_right _ hlc
        rw [Nat.min_eq_left h0] at h1
        show (c1 ++ (c2.take k ++ (a.eval y).cells.toList ++ c2.drop (k + n)) ++ c3 ++ rest).take _ = _
        refine List.take_left' ?_
        simp only [List.length_append] at hsize h1 ⊢
        omega
      have hglue := VCs.glue hil ha1 hpv ha3
      rw [hpp] at hbs
      have hnd2 := (List.nodup_cons.1 hbs).2
      obtain ⟨G', hle⟩ := Good.write G hL hnil rfl hb harr' (by rw [hlset]; exact hlc) hcap hsz (l' := l.set i (putPart e k v)) (bs1 := p1 ++ bs' ++ p3) (fun e' he' => by
        rcases List.mem_or_eq_of_mem_set he' with h | h
        · exact hw _ h
        · rw [h, hpw, ← he]; exact hw _ (List.getElem_mem hil)) (by rw [htake]; exact hglue) (fun b hb => by
        rw [hpp]
        simp only [List.mem_append] at hb ⊢
        rcases hb with (h | h) | h
        · exact .inl (.inl h)
        · exact .inl (.inr (hsub b h))
        · exact .inr h) (by
        have h7 : (p1 ++ p2 ++ p3).Nodup := hnd2
        obtain ⟨h8, h9, h10⟩ := List.nodup_append.1 h7
        obtain ⟨h11, h12, h13⟩ := List.nodup_append.1 h8
        refine List.nodup_append.2 ⟨List.nodup_append.2 ⟨h11, hnd h12, fun a ha b hb => h13 a ha b (hsub b hb)⟩, h9, fun a ha b hb => ?_⟩
        rcases List.mem_append.1 ha with h | h
        · exact h10 a (by simp [h]) b hb
        · exact h10 a (by simp [hsub a h]) b hb) _ rfl
      have hrun : (execOp a.eval ⟨dst, .store t x y, ty, pos, after, g⟩).run P m.w = .ok .skip (m.w.setRow L.blk (c1 ++ (c2.take k ++ (a.eval y).cells.toList ++ c2.drop (k + (a.eval y).cells.toList.length)) ++ c3 ++ rest).toArray) := by
        have hsz' : (a.eval y).cells.size = n := by rw [← hdl]; simp
        simp only [execOp, Instr.storeAt, e1, Instr.sureAddr, storeVar, run_sizeOf hn, Sem.run_bind, Sem.run_pure, Result.andThen_ok, hsz', ne_eq, not_true_eq_false, if_false, hst]
      unfold Oper.wp
      rw [hrun]
      refine ⟨_, N, Z.set p ((X, .row t' sz (l.set i (putPart e k v))), L.blk :: (p1 ++ bs' ++ p3)), rfl, ?_, G'.perm (hp2 _).symm, (h4.mono hle).put hd rfl⟩
      rw [List.map_set, h2']; rfl

/-! ### literals -/
def fillA (pl : List (Nat × Nat)) (cs : List AV) : List (Nat × AV) → Option (List AV)
  | [] => some cs
  | (i, v) :: r => match pl[i]? with
    | none => none
    | some (off, n) => match putOk (.agg cs) off n v with
      | false => none
      | true => fillA pl (putPart (.agg cs) off v).cells r
theorem fold_set (off : Nat) : ∀ (vs : List Value) (k : Nat) (arr : Array Value), off + k + vs.length ≤ arr.size →
    ((vs.zipIdx k).foldl (fun cs (c, j) => cs.setIfInBounds (off + j) c) arr).toList = arr.toList.take (off + k) ++ vs ++ arr.toList.drop (off + k + vs.length) := by
  intro vs
  induction vs with
  | nil => intro k arr h; simp
  | cons v vs ih =>
    intro k arr h
    simp only [List.zipIdx_cons, List.foldl_cons]
    rw [ih (k + 1) _ (by simp at h ⊢; omega)]
    have := list_seg_step arr.toList (off + k) v vs (by simp at h ⊢; omega)
    simpa [Nat.add_assoc] using this
theorem fillA_spec (m : Mem) (ρ : Operand → Value) {place : Nat → Option (Nat × Nat)} {pl : List (Nat × Nat)} (hpl : ∀ i q, pl[i]? = some q → place i = some q) : ∀ (xs : List (Nat × Operand × AV)) (cs cs' : List AV) (cells : Array Value), VCs m cs cells.toList [] → (∀ q ∈ xs, VV m q.2.2 (ρ q.2.1) []) →
    fillA pl cs (xs.map fun q => (q.1, q.2.2)) = some cs' → ∃ cells', Instr.fill place cells (xs.map fun q => (q.1, ρ q.2.1)) = some cells' ∧ VCs m cs' cells'.toList [] ∧ AV.widths cs' = AV.widths cs := by
  intro xs
  induction xs with
  | nil =>
    intro cs cs' cells hc _ h
    injection h with h
    subst h
    exact ⟨cells, rfl, hc, rfl⟩
  | cons q xs ih =>
    obtain ⟨i, x, v⟩ := q
    intro cs cs' cells hc hx h
    simp only [List.map_cons, fillA] at h
    cases hq : pl[i]? with
    | none => rw [hq] at h; cases h
    | some q =>
      obtain ⟨off, n⟩ := q
      rw [hq] at h
      simp only at h
      cases hp : putOk (.agg cs) off n v with
      | false => rw [hp] at h; cases h
      | true =>
        rw [hp] at h
        simp only at h
        have hs : v.stor = true := by simp only [putOk, Bool.and_eq_true] at hp; exact hp.1.2
        obtain ⟨hv, _⟩ := VV.cells (hx (i, x, v) (by simp)) hs
        have hv : VCs m v.cells (ρ x).cells.toList [] := hv
        obtain ⟨hdl, hkl, hpw, bs', hpv, hsub, _⟩ := putPart_spec (e := .agg cs) hp hc hv
        have hb : bs' = [] := List.eq_nil_iff_forall_not_mem.2 fun b hb => by have := hsub b hb; simp at this
        subst hb
        have hsz : (ρ x).cells.size = n := by rw [← hdl]; simp
        have hfold := fold_set off (ρ x).cells.toList 0 cells (by simp at hkl ⊢; omega)
        simp only [Nat.add_zero] at hfold
        rw [hdl] at hfold
        have harr : (ρ x).cells.zipIdx.foldl (fun cs (c, j) => cs.setIfInBounds (off + j) c) cells = (cells.toList.take off ++ (ρ x).cells.toList ++ cells.toList.drop (off + n)).toArray := by
          apply Array.ext'
          rw [← hfold, ← Array.foldl_toList, Array.toList_zipIdx]
        obtain ⟨cells', h1, h2, h3⟩ := ih (putPart (.agg cs) off v).cells cs' (cells.toList.take off ++ (ρ x).cells.toList ++ cells.toList.drop (off + n)).toArray (by simpa using hpv.cells) (fun q hq => hx q (by simp [hq])) h
        refine ⟨cells', ?_, h2, h3.trans hpw⟩
        simp only [List.map_cons, Instr.fill, hpl i _ hq]
        rw [if_neg (by simp only [Bool.or_eq_true, decide_eq_true_eq, ne_eq, not_or, Decidable.not_not]; simp at hkl; omega), harr]
        exact h1
def tStr (P : Program) (t : TypeId) : Option (List Value × List (Nat × Nat)) := match P.info? t, P.underlying t with
  | some it, some (.struct fields) => match it.zero, fields.toList.mapM (fun f => (P.info? f.type).map fun i => (f.offset, i.size)) with
    | some z, some places => match ones z.cells.toList with
      | true => some (z.cells.toList, places)
      | false => none
    | _, _ => none
  | _, _ => none
theorem tStr_ones {t : TypeId} {zl : List Value} {pl : List (Nat × Nat)} (h : tStr P t = some (zl, pl)) : ∀ u ∈ zl, u.oneCell' = true := by
  unfold tStr at h
  split at h
  · split at h
    · split at h
      · rename_i ho
        simp only [Option.some.injEq, Prod.mk.injEq] at h
        obtain ⟨rfl, rfl⟩ := h
        exact ones_spec ho
      · cases h
    · cases h
  · cases h
theorem tStr_spec {t : TypeId} {zl : List Value} {pl : List (Nat × Nat)} (h : tStr P t = some (zl, pl)) {parts : List (Nat × Value)} {cells : Array Value} (hf : Instr.fill (pl.toArray[·]?) zl.toArray parts = some cells) : P.built t parts = some cells := by
  unfold tStr at h
  unfold Program.built
  split at h
  · rename_i it fields h1 h2
    split at h
    · rename_i z places h3 h4
      split at h
      · rename_i ho
        simp only [Option.some.injEq, Prod.mk.injEq] at h
        obtain ⟨rfl, rfl⟩ := h
        simp only [h1, h2, h3, h4]
        simpa using hf
      · cases h
    · cases h
  · cases h
theorem OpT.build {ps : List (Nat × Operand × AV)} {zl : List Value} {pl : List (Nat × Nat)} {cs : List AV} (h : tStr P t = some (zl, pl)) (hf : fillA pl (zl.map .prim) (ps.map fun q => (q.1, q.2.2)) = some cs) : OpT P ⟨dst, .build t (ps.map fun q => (q.1, q.2.1)).toArray, ty, pos, after, g⟩ (ps.map (·.2)) [] (.agg cs) [] :=
  .pure_ fun m a hx _ => by
    obtain ⟨cells', h1, h2, _⟩ := fillA_spec m a.eval (place := (pl.toArray[·]?)) (pl := pl) (fun i q hq => by simpa using hq) ps (zl.map .prim) cs zl.toArray (by simpa using prims_vcs m zl (tStr_ones h)) (fun q hq => hx q.2 (List.mem_map.2 ⟨q, hq, rfl⟩)) hf
    refine ⟨.agg cells', ?_, cells', rfl, h2⟩
    have := run_build (P := P) m.w t ((ps.map fun q => (q.1, a.eval q.2.1)).toArray) cells' (by simpa using tStr_spec h h1)
    simp only [execOp, List.map_toArray, List.map_map, Sem.run_bind]
    rw [show ((fun x : Nat × Operand => (x.1, a.eval x.2)) ∘ fun q : Nat × Operand × AV => (q.1, q.2.1)) = fun q => (q.1, a.eval q.2.1) from rfl, this]
    simp [Sem.run_pure, Result.andThen_ok]

/-! ### rows -/
def fillE (sz : Nat) (l : List AV) : List (Nat × AV) → Option (List AV)
  | [] => some l
  | (i, v) :: r => match Nat.blt i l.length && Nat.beq v.width sz && v.stor with
    | false => none
    | true => fillE sz (l.set i v) r
theorem fillE_spec (m : Mem) (ρ : Operand → Value) {sz : Nat} : ∀ (xs : List (Nat × Operand × AV)) (l l' : List AV) (cells : Array Value), (∀ e ∈ l, e.width = sz) → VCs m l cells.toList [] → (∀ q ∈ xs, VV m q.2.2 (ρ q.2.1) []) →
    fillE sz l (xs.map fun q => (q.1, q.2.2)) = some l' → ∃ cells', Instr.fill (fun i => some (i * sz, sz)) cells (xs.map fun q => (q.1, ρ q.2.1)) = some cells' ∧ VCs m l' cells'.toList [] ∧ l'.length = l.length ∧ (∀ e ∈ l', e.width = sz) := by
  intro xs
  induction xs with
  | nil =>
    intro l l' cells hw hc _ h
    injection h with h
    subst h
    exact ⟨cells, rfl, hc, rfl, hw⟩
  | cons q xs ih =>
    obtain ⟨i, x, v⟩ := q
    intro l l' cells hw hc hx h
    simp only [List.map_cons, fillE] at h
    cases hb : Nat.blt i l.length && Nat.beq v.width sz && v.stor with
    | false => rw [hb] at h; cases h
    | true =>
      rw [hb] at h
      simp only at h
      simp only [Bool.and_eq_true] at hb
      obtain ⟨⟨h1, h2⟩, hs⟩ := hb
      have hil : i < l.length := by simpa [Nat.blt_eq] using h1
      have hvw := Nat.eq_of_beq_eq_true h2
      obtain ⟨hv, _⟩ := VV.cells (hx (i, x, v) (by simp)) hs
      have hv : VCs m v.cells (ρ x).cells.toList [] := hv
      have hv' : VC m v (ρ x).cells.toList [] := VV.vc (hx (i, x, v) (by simp)) hs
      have hdl : (ρ x).cells.toList.length = sz := by rw [VC.len _ hv', hvw]
      obtain ⟨c1, c2, c3, p1, p2, p3, hcc, hpp, hl1, hl2, ha1, ha2, ha3⟩ := hc.get hw hil
      obtain ⟨rfl, rfl, rfl⟩ : p1 = [] ∧ p2 = [] ∧ p3 = [] := by
        have := hpp.symm
        simp at this
        exact this
      have hcl : cells.size = i * sz + sz + c3.length := by
        have := congrArg List.length hcc
        simp only [Array.length_toList, List.length_append] at this
        omega
      have hfold := fold_set (i * sz) (ρ x).cells.toList 0 cells (by omega)
      simp only [Nat.add_zero] at hfold
      rw [hdl] at hfold
      have hrow : cells.toList.take (i * sz) ++ (ρ x).cells.toList ++ cells.toList.drop (i * sz + sz) = c1 ++ (ρ x).cells.toList ++ c3 := by
        have e1 : cells.toList.take (i * sz) = c1 := by rw [hcc, List.append_assoc, List.take_left' hl1]
        have e2 : cells.toList.drop (i * sz + sz) = c3 := by rw [hcc, List.drop_left' (by rw [List.length_append]; omega)]
        rw [e1, e2]
      have harr : (ρ x).cells.zipIdx.foldl (fun cs (c, j) => cs.setIfInBounds (i * sz + j) c) cells = (c1 ++ (ρ x).cells.toList ++ c3).toArray := by
        apply Array.ext'
        rw [← hrow, ← hfold, ← Array.foldl_toList, Array.toList_zipIdx]
      have hglue := VCs.glue hil ha1 hv' ha3
      simp only [List.append_nil] at hglue
      obtain ⟨cells', h3, h4, h5, h6⟩ := ih (l.set i v) l' (c1 ++ (ρ x).cells.toList ++ c3).toArray (fun e he => by
        rcases List.mem_or_eq_of_mem_set he with h | h
        · exact hw _ h
        · rw [h, hvw]) (by simpa using hglue) (fun q hq => hx q (by simp [hq])) h
      refine ⟨cells', ?_, h4, by rw [h5, List.length_set], h6⟩
      have hsz : (ρ x).cells.size = sz := by rw [← hdl]; simp
      simp only [List.map_cons, Instr.fill]
      rw [if_neg (by simp only [Bool.or_eq_true, decide_eq_true_eq, ne_eq, not_or, Decidable.not_not]; omega), harr]
      exact h3
theorem made_flat (z : Array Value) (n : Nat) : ((Array.range (n * z.size)).map (z[· % z.size]!)).toList = (List.replicate n z.toList).flatten := by
  simp only [Array.toList_map, Array.toList_range]
  induction n with
  | zero => simp
  | succ n ih =>
    rw [Nat.add_mul, Nat.one_mul, List.range_add, List.map_append, ih, List.replicate_succ', List.flatten_append, List.flatten_singleton]
    congr 1
    apply List.ext_getElem?
    intro j
    simp only [List.map_map, List.getElem?_map, Array.getElem?_toList]
    rcases Nat.lt_or_ge j z.size with h | h
    · rw [List.getElem?_range h]
      simp [Nat.mul_add_mod_of_lt, h, Nat.mod_eq_of_lt h]
    · rw [List.getElem?_eq_none (by simpa using h), Array.getElem?_eq_none (by omega)]; rfl
theorem vcs_replicate (m : Mem) {z : AV} {zl : List Value} (h : VC m z zl []) (n : Nat) : VCs m (List.replicate n z) (List.replicate n zl).flatten [] := by
  induction n with
  | zero => exact VCs.nil
  | succ n ih => exact ⟨zl, (List.replicate n zl).flatten, [], [], rfl, rfl, h, ih⟩
theorem OpT.buildSlice {ps : List (Nat × Operand × AV)} {zl : List Value} {ag : Bool} {te : TypeId} {n : Nat} {l : List AV} (he : tElem P t = some te) (hz : tZ P te = some zl) (hsz : tSz P te = some sz) (hzs : zl.length = sz) (hag : ag = true ∨ zl.length = 1) (hn : n * sz ≤ 16777216) (h0 : 0 < n * sz)
    (hf : fillE sz (List.replicate n (zAV zl ag)) (ps.map fun q => (q.1, q.2.2)) = some l) : OpT P ⟨dst, .buildSlice t n (ps.map fun q => (q.1, q.2.1)).toArray, ty, pos, after, g⟩ (ps.map (·.2)) [(p, (X, .gone))] (.sl X 0 n) [(p, (X, .row te sz l))] := by
  obtain ⟨i, zv, hi, hzv, hzl, ho⟩ := tZ_spec hz
  obtain rfl : i.size = sz := by simpa [tSz, hi] using hsz
  have hzvs : zv.cells.size = i.size := by rw [← hzs, ← hzl]; simp
  refine OpT.new_ (fun m a hx => ?_)
  have hzc := zAV_vc m ho hag
  have hzw : (zAV zl ag).width = i.size := by rw [← VC.len _ hzc, hzs]
  have hcl : ((Array.range (n * i.size)).map (zv.cells[· % zv.cells.size]!)).toList = (List.replicate n zl).flatten := by
    rw [← hzvs, made_flat, hzl]
  obtain ⟨cells', h1, h2, h3, h4⟩ := fillE_spec m a.eval (sz := i.size) ps (List.replicate n (zAV zl ag)) l ((Array.range (n * i.size)).map (zv.cells[· % zv.cells.size]!)) (fun e he => by rw [List.eq_of_mem_replicate he, hzw]) (by rw [hcl]; exact vcs_replicate m hzc n) (fun q hq => hx q.2 (List.mem_map.2 ⟨q, hq, rfl⟩)) hf
  have hll : l.length = n := by rw [h3, List.length_replicate]
  have hcs : cells'.size = n * i.size := by have := VCs.len _ h2; rw [widths_of h4, hll] at this; simpa using this
  refine ⟨cells', n, .slice (some ⟨m.w.heap.size, 0, none⟩) n n, ?_, hcs, by omega, by
    have : n ≤ n * i.size := Nat.le_mul_of_pos_right _ (by
      rcases Nat.eq_zero_or_pos i.size with h | h
      · rw [h] at h0; omega
      · exact h)
    unfold maxLen; omega, h4, ?_, .inr ⟨n, rfl, Nat.le_refl _, rfl⟩⟩
  · have hr := run_buildSlice (P := P) m.w t te n ((ps.map fun q => (q.1, a.eval q.2.1)).toArray) cells' i zv (tElem_spec he) hi hzv (by omega) (by omega) (by simpa using h1)
    simp only [execOp, List.map_toArray, List.map_map, Sem.run_bind]
    rw [show ((fun x : Nat × Operand => (x.1, a.eval x.2)) ∘ fun q : Nat × Operand × AV => (q.1, q.2.1)) = fun q => (q.1, a.eval q.2.1) from rfl, hr]
    simp [Sem.run_pure, Result.andThen_ok]
  · rw [hll, List.take_of_length_le (by simp; omega)]
    exact h2
theorem OpT.makeSlice {k k' : IntKind} {q q' : Int} {zl : List Value} {ag : Bool} {te : TypeId} {n c by_ : Nat} (he : tElem P t = some te) (hz : tZ P te = some zl) (hsz : tSz P te = some sz) (hzs : zl.length = sz) (hag : ag = true ∨ zl.length = 1) (hby : (P.info? te).map (·.bytes) = some by_)
    (hq : q = (n : Int)) (hq' : q' = (c : Int)) (hnc : n ≤ c) (hb : by_ * c ≤ 281474976710656) (hc : c ≤ maxLen) : OpT P ⟨dst, .makeSlice t x y, ty, pos, after, g⟩ [(x, .prim (.int k q)), (y, .prim (.int k' q'))] [(p, (X, .gone))] (.sl X 0 n) [(p, (X, .row te sz (List.replicate n (zAV zl ag))))] := by
  obtain ⟨i, zv, hi, hzv, hzl, ho⟩ := tZ_spec hz
  have hisz : i.size = sz := by simpa [tSz, hi] using hsz
  have hiby : i.bytes = by_ := by simpa [hi] using hby
  have hzvs : zv.cells.size = sz := by rw [← hzs, ← hzl]; simp
  refine OpT.new_ (fun m a hx => ?_)
  have hzc := zAV_vc m ho hag
  have hzw : (zAV zl ag).width = sz := by rw [← VC.len _ hzc, hzs]
  have hx1 := (hx (x, .prim (.int k q)) (by simp)).prim
  have hx2 := (hx (y, .prim (.int k' q')) (by simp)).prim
  simp only at hx1 hx2
  subst hq hq'
  have hbz : (by_ : Int) * (c : Int) ≤ 281474976710656 := by
    have : ((by_ * c : Nat) : Int) ≤ 281474976710656 := by omega
    rwa [Int.natCast_mul] at this
  have hcl : (madeCells zv.cells (c * i.size)).toList = (List.replicate c zl).flatten := by
    rw [hisz, ← hzvs, madeCells, made_flat, hzl]
  refine ⟨madeCells zv.cells (c * i.size), c, .slice (some ⟨m.w.heap.size, 0, none⟩) n c, ?_, by rw [size_madeCells, hisz], by simpa using hnc, hc, fun e he => by rw [List.eq_of_mem_replicate he, hzw], ?_, .inr ⟨n, rfl, hnc, rfl⟩⟩
  · have hr := run_make (P := P) m.w t te i zv (tElem_spec he) hi hzv k k' n c (by omega) (by omega) (by rw [hiby]; exact hbz) (by unfold maxLen at hc; omega)
    simp only [Int.toNat_natCast] at hr
    simp [execOp, hx1, hx2, hr, Sem.run_bind, Sem.run_pure, Result.andThen_ok]
  · rw [hcl, List.length_replicate]
    have : (List.replicate c zl).flatten.take (n * sz) = (List.replicate n zl).flatten := by
      obtain ⟨d, rfl⟩ := Nat.exists_eq_add_of_le hnc
      rw [← List.replicate_append_replicate, List.flatten_append, List.take_left' (by simp [hzs])]
    rw [this]
    exact vcs_replicate m hzc n

/-! ### parts of slices -/
def lowOf : Option (Operand × AV) → Option Nat
  | none => some 0
  | some (_, .prim (.int _ (.ofNat n))) => some n
  | _ => none
theorem run_slice {w : World} {t te : TypeId} {sz : Nat} (he : tElem P t = some te) (hsz : tSz P te = some sz) {A : Option Addr} {len cap lo hi : Nat} {vl vh : Option Value} (hl : ∀ u, vl = some u → ∃ k, u = .int k lo) (hl0 : vl = none → lo = 0) (hh : ∀ u, vh = some u → ∃ k, u = .int k hi) (hh0 : vh = none → hi = len) (h1 : lo ≤ hi) (h2 : hi ≤ cap) :
    (Instr.sliceAt t (.slice A len cap) vl vh none).run P w = .ok (.slice (if cap = lo then A else A.map (·.add (lo * sz))) (hi - lo) (cap - lo)) w := by
  have hb : ∀ (x y : Nat) (k : IntKind) (code : BoundsCode), x ≤ y → (Instr.sliceBound (.int k (x : Int)) y code).run P w = .ok x w := by
    intro x y k code h
    have : (0 : Int) ≤ (x : Int) ∧ (x : Int) ≤ (y : Int) := by omega
    simp [Instr.sliceBound, asIntOf, this, Sem.run_bind, Sem.run_pure, Result.andThen_ok, h]
  have hbs : (Instr.sliceBounds true len cap vl vh none).run P w = .ok (lo, hi, cap) w := by
    rcases vl with _ | u
    · rcases vh with _ | u'
      · simp [Instr.sliceBounds, Sem.run_bind, Sem.run_pure, Result.andThen_ok, hl0, hh0]
      · obtain ⟨k, rfl⟩ := hh u' rfl
        simp [Instr.sliceBounds, Sem.run_bind, Sem.run_pure, Result.andThen_ok, hl0, hb _ _ _ _ h2]
    · obtain ⟨k, rfl⟩ := hl u rfl
      rcases vh with _ | u'
      · have := hh0 rfl
        subst this
        simp [Instr.sliceBounds, Sem.run_bind, Sem.run_pure, Result.andThen_ok, hb _ _ _ _ h1]
      · obtain ⟨k', rfl⟩ := hh u' rfl
        simp [Instr.sliceBounds, Sem.run_bind, Sem.run_pure, Result.andThen_ok, hb _ _ _ _ h1, hb _ _ _ _ h2]
  simp [Instr.sliceAt, Instr.slice, run_underlying (tElem_spec he), hbs, run_sizeOf hsz, Sem.run_bind, Sem.run_pure, Result.andThen_ok]
end
end Go.Proofs.Ytcfleoaldoebhaa

/-
  Append over abstract values. No conditions.
-/
import Derived.Test.YtcfleoaldoebhaaAbs11
namespace Go.Proofs.Ytcfleoaldoebhaa
set_option linter.unusedVariables false
set_option linter.unusedSimpArgs false
open Go.RowKit

/-- t is the type of slices of e; an element's zero value has the cells zl, and takes so many bytes. -/
def tRow (P : Program) (t : TypeId) : Option (TypeId × Nat × Nat) := match P.underlying t with
  | some (.slice e) => match P.info? e with
    | some i => match i.zero with
      | some z => match Nat.beq z.cells.size i.size && Nat.blt 0 i.size with
        | true => some (e, i.size, i.bytes)
        | false => none
      | none => none
    | none => none
  | _ => none
theorem tRow_spec {P : Program} {t e : TypeId} {sz by_ : Nat} (h : tRow P t = some (e, sz, by_)) : ∃ i z, P.underlying t = some (.slice e) ∧ P.info? e = some i ∧ i.zero = some z ∧ i.size = sz ∧ i.bytes = by_ ∧ z.cells.size = sz ∧ 0 < sz := by
  unfold tRow at h
  split at h
  · rename_i e' he
    split at h
    · rename_i i hi
      split at h
      · rename_i z hz
        split at h
        · rename_i hb
          simp only [Bool.and_eq_true] at hb
          simp only [Option.some.injEq, Prod.mk.injEq] at h
          obtain ⟨rfl, rfl, rfl⟩ := h
          exact ⟨i, z, he, hi, hz, rfl, rfl, Nat.eq_of_beq_eq_true hb.1, by simpa [Nat.blt_eq] using hb.2⟩
        · cases h
      · cases h
    · cases h
  · cases h

section
variable {P : Program} {nt : Nat} {m0 m : Mem} {N : Nat} {R : Zs} {ex : List Nat} {X Y : Nat} {t te t' ty : TypeId} {sz by_ : Nat} {l ls : List AV} {st : St}
variable {o : Oper} {v : AV} {x y z : Operand} {pos : String} {after : Array Edge} {g : Option (Nat × Bool)} {dst : Option Tmp} {p q : Nat} {u1 u2 : Value}
theorem run_append_any (T : tRow P t = some (te, sz, by_)) (w : World) (ty : TypeId) {v : Value} {n : Nat} {xs news : List Value} (hown : w.ownsRow 0 te sz v n xs) {A : Option Addr} {k c : Nat} (hk : k ≤ c) (hl : news.length = k * sz)
    (hn : 0 < k → ∃ b off, A = some ⟨b, off, none⟩ ∧ ∀ j u, news[j]? = some u → w.cell? ⟨b, off + j, none⟩ = some u) (h1 : ∀ u ∈ news, u.oneCell' = true) (hbytes : (n + k) * by_ ≤ 140737488355328) (hlen : n + k ≤ maxLen) :
    ∃ v' w', (Builtin.append_ #[t, t] ty #[v, .slice A k c]).run P w = .ok v' w' ∧ w'.ownsRow 0 te sz v' (n + k) (xs ++ news) ∧ w.grownBy w' v.ownBlock ∧ (v'.ownBlock = v.ownBlock ∨ v'.ownBlock = some w.heap.size) := by
  obtain ⟨i, z, ht, hi, hz, h3, h4, hzs, hsz⟩ := tRow_spec T
  rcases A with _ | ad
  · have hm : k = 0 := by
      rcases Nat.eq_zero_or_pos k with h0 | h0
      · exact h0
      · obtain ⟨b, off, h, _⟩ := hn h0
        cases h
    subst hm
    have hnn : news = [] := List.eq_nil_of_length_eq_zero (by simpa using hl)
    subst hnn
    refine ⟨v, w, ?_, by simpa using hown, World.grownBy.refl w _, .inl rfl⟩
    rcases hown.2 with ⟨rfl, rfl⟩ | ⟨g, cap, cur, rfl, _, _, hnc, _⟩
    · simp [Builtin.append_, run_underlying ht, sizeOf, typeInfo, hi, Builtin.lenOf, Builtin.firstCells]
    · simp [Builtin.append_, run_underlying ht, sizeOf, typeInfo, hi, Builtin.lenOf, Builtin.firstCells, hnc, storeCells]
  · have hcells : ∀ j u, news[j]? = some u → w.cell? (ad.add j) = some u := by
      intro j u hu
      rcases Nat.eq_zero_or_pos k with h0 | h0
      · subst h0
        have hnn : news = [] := List.eq_nil_of_length_eq_zero (by simpa using hl)
        subst hnn
        simp at hu
      · obtain ⟨b, off, h, hc⟩ := hn h0
        injection h with h
        subst h
        rw [pt_add]
        exact hc j u hu
    obtain ⟨v', w', hrun, h2, h5, _, h6⟩ := run_append_own_at (P := P) w 0 t ty te i z sz by_ ht hi hz h3 h4 hzs hsz v n xs hown ad k c news hl hcells h1 hlen hbytes (Nat.zero_le _)
    exact ⟨v', w', hrun, h2, h5, h6⟩
/-- A row of ours is a row of the kit's. -/
theorem ORel.owns {bs : List Nat} (h : ORel m X (.row te sz l) bs) {u : Value} (hu : VV m (.sl X 0 l.length) u []) : ∃ xs bs0, m.w.ownsRow 0 te sz u l.length xs ∧ VCs m l xs bs0 ∧ (∀ e ∈ l, e.width = sz) ∧ ((u.ownBlock = none ∧ bs = [] ∧ bs0 = []) ∨ ∃ g, u.ownBlock = some g ∧ bs = g :: bs0) := by
  obtain ⟨hU, L, hL, hsz, hO⟩ := h
  obtain ⟨_, _, A, q, e, hs⟩ := hu
  injection e with e
  rcases hs L hL with ⟨h1, h2, _, h3⟩ | ⟨h1, h2, o, h3, h4⟩
  · rcases hO with ⟨_, rfl, rfl⟩ | ⟨h5, _⟩
    · exact ⟨[], [], ⟨by simp, .inl ⟨e.trans h2, rfl⟩⟩, VCs.nil, by simp, .inl ⟨by rw [e, h2]; rfl, rfl, rfl⟩⟩
    · rw [h1] at h5; cases h5
  · rcases hO with ⟨h5, _⟩ | ⟨_, arr, bs0, rfl, h6, h7, h8, h9, h10, h11⟩
    · rw [h1] at h5; cases h5
    · have ho := h4 (.inr rfl)
      rw [Nat.zero_mul] at ho
      subst ho
      refine ⟨arr.toList.take (l.length * sz), bs0, ⟨?_, .inr ⟨L.blk, L.cap, arr, by rw [e, h3, Nat.sub_zero], Nat.zero_le _, h6, h8, h9, h7, rfl⟩⟩, h11, h10, .inr ⟨L.blk, by rw [e, h3]; rfl, rfl⟩⟩
      have h12 := Nat.mul_le_mul_right sz h8
      have h13 : arr.toList.length = L.cap * sz := by simpa using h7
      rw [List.length_take]
      omega
/-- What an append leaves. -/
theorem Good.app {bs bsY : List Nat} (G : Good m0 m N (((Y, .gone), bsY) :: ((X, .row te sz l), bs) :: R) ex) {u v' : Value} {xs news : List Value} {w' : World} {bs0 : List Nat} (hv : VCs m l xs bs0) (hn : VCs m ls news []) (hw : ∀ e ∈ l ++ ls, e.width = sz) (hbs : (u.ownBlock = none ∧ bs = [] ∧ bs0 = []) ∨ ∃ g, u.ownBlock = some g ∧ bs = g :: bs0)
    (hown : w'.ownsRow 0 te sz v' (l.length + ls.length) (xs ++ news)) (hg : m.w.grownBy w' u.ownBlock) (hat : v'.ownBlock = u.ownBlock ∨ v'.ownBlock = some m.w.heap.size) :
    ∃ m' bs', m'.w = w' ∧ Good m0 m' N (((X, .used), []) :: ((Y, .row te sz (l ++ ls)), bs') :: R) ex ∧ m.Le m' ∧ VV m' (.sl Y 0 (l.length + ls.length)) v' [] := by
  obtain ⟨rfl, hYU⟩ := G.obj _ (List.mem_cons_self ..)
  have hXU := (G.obj ((X, .row te sz l), bs) (by simp)).1
  have hYN := G.keyN Y (by simp [Zs.keys])
  have hXN := G.keyN X (by simp [Zs.keys])
  have hXY : Y ≠ X := by have := G.keys; simp [Zs.keys] at this; exact fun e => this.1.1 e
  have own := G.own
  simp only [own_cons, List.nil_append] at own
  -- the new place
  obtain ⟨L, hLv⟩ : ∃ L : Loc, L.sz = sz ∧ ((L.isNil = true ∧ v' = .slice none 0 0 ∧ l ++ ls = []) ∨ (L.isNil = false ∧ ∃ cur, v' = .slice (some ⟨L.blk, 0, none⟩) (l.length + ls.length) L.cap ∧ w'.heap[L.blk]? = some (.cells cur te (0, 0)) ∧ l.length + ls.length ≤ L.cap ∧ L.cap ≤ maxLen ∧ cur.size = L.cap * sz ∧ cur.toList.take ((l.length + ls.length) * sz) = xs ++ news)) := by
    rcases hown.2 with ⟨h1, h2⟩ | ⟨g, cap, cur, h1, _, h3, h4, h5, h6, h7⟩
    · exact ⟨⟨0, 0, sz, true⟩, rfl, .inl ⟨rfl, h1, List.eq_nil_of_length_eq_zero (by rw [List.length_append]; exact h2)⟩⟩
    · exact ⟨⟨g, cap, sz, false⟩, rfl, .inr ⟨rfl, cur, h1, h3, h4, h5, h6, h7⟩⟩
  obtain ⟨hLs, hLv⟩ := hLv
  let m' : Mem := ⟨fun y => if y = Y then some L else m.μ y, fun y => m.U y ∨ y = Y, w', m.F⟩
  have hF : ∀ b, m.F b → b < m.w.heap.size ∧ b ∉ bs := fun b hb => ⟨G.frz b hb, fun h => (G.blk b (by simp [own_cons, h])).2 hb⟩
  have hrow : ∀ b, u.ownBlock = some b → b ∈ bs := by
    intro b hb
    rcases hbs with ⟨h1, _⟩ | ⟨g, h1, h2⟩
    · rw [h1] at hb; cases hb
    · rw [h1] at hb; injection hb with hb; subst hb; simp [h2]
  have hsame : ∀ b, b < m.w.heap.size → u.ownBlock ≠ some b → w'.heap[b]? = m.w.heap[b]? := fun b hb hne => hg.block b hb (fun e => hne e.symm)
  have hle : m.Le m' := by
    refine ⟨fun y h => .inl h, fun y L' hy hL => ?_, fun b hb => ⟨hb, hsame b (hF b hb).1 (fun e => (hF b hb).2 (hrow b e))⟩⟩
    simp only [m'] at hL
    split at hL
    · rename_i e; subst e; exact absurd hy hYU
    · exact hL
  -- the block of the new row
  have hblk : L.isNil = false → (L.blk ∈ bs ∨ m.w.heap.size ≤ L.blk) ∧ L.blk ∉ bs0 ∧ L.blk < w'.heap.size := by
    intro hnil
    rcases hLv with ⟨h, _⟩ | ⟨_, cur, h1, h2, _⟩
    · rw [hnil] at h; cases h
    · have hob : v'.ownBlock = some L.blk := by rw [h1]; rfl
      have hlt := lt_of_block h2
      rw [hob] at hat
      rcases hat with h | h
      · have hin := hrow _ h.symm
        refine ⟨.inl hin, ?_, hlt⟩
        rcases hbs with ⟨h5, _⟩ | ⟨g, h5, h6⟩
        · rw [h5] at h; cases h
        · rw [h5] at h
          injection h with h
          rw [h6, List.append_assoc] at own
          rw [h]
          exact fun hc => (List.nodup_cons.1 own).1 (by simp [hc])
      · injection h with h
        refine ⟨.inr (by omega), fun hc => ?_, hlt⟩
        have hb0 : L.blk ∈ bs := by
          rcases hbs with ⟨_, _, h6⟩ | ⟨g, _, h6⟩
          · rw [h6] at hc; cases hc
          · rw [h6]; simp [hc]
        have := (G.blk L.blk (by simp [own_cons, hb0])).1
        omega
  have hbs0 : ∀ b ∈ bs0, b ∈ bs ∧ u.ownBlock ≠ some b := by
    intro b hb
    rcases hbs with ⟨_, _, h6⟩ | ⟨g, h5, h6⟩
    · rw [h6] at hb; cases hb
    · refine ⟨by rw [h6]; simp [hb], fun e => ?_⟩
      rw [h5] at e
      injection e with e
      rw [h6, List.append_assoc] at own
      exact (List.nodup_cons.1 own).1 (by simp [e, hb])
  have hbsnd : bs0.Nodup := by
    rcases hbs with ⟨_, _, h6⟩ | ⟨g, _, h6⟩
    · rw [h6]; exact List.nodup_nil
    · rw [h6, List.append_assoc] at own
      exact (List.nodup_append.1 (List.nodup_cons.1 own).2).1
  have hcells : VCs m' (l ++ ls) (xs ++ news) bs0 := by
    have h1 := VCs.mono hle l (fun b hb => hsame b (G.blk b (by simp [own_cons, (hbs0 b hb).1])).1 (hbs0 b hb).2) hv
    have h2 := VCs.mono hle ls (by simp) hn
    simpa using h1.append h2
  let bs' := if L.isNil then [] else L.blk :: bs0
  refine ⟨m', bs', rfl, ?_, hle, ?_⟩
  · refine Good.swap (zs := [((Y, .gone), []), ((X, .row te sz l), bs)]) (zs' := [((X, .used), []), ((Y, .row te sz (l ++ ls)), bs')]) G hle (Nat.le_refl _) ?_ ?_ ?_ ?_ ?_ ?_ ?_ ?_ ?_ hg.os hg.tape hg.output hg.size
    · intro b hb _
      have : b ≠ Y := fun e => hb (by simp [Zs.keys, e])
      simp [m', this]
    · intro b hb h1 _
      exact hsame b hb fun e => h1 (by simp [Zs.own, hrow b e])
    · intro z hz
      simp only [List.mem_cons, List.not_mem_nil, or_false] at hz
      rcases hz with rfl | rfl
      · exact ⟨rfl, .inl hXU⟩
      · refine ⟨.inr rfl, L, by simp [m'], hLs, ?_⟩
        rcases hLv with ⟨h1, _, h3⟩ | ⟨h1, cur, h2, h3, h4, h5, h6, h7⟩
        · exact .inl ⟨h1, h3, by simp [bs', h1]⟩
        · refine .inr ⟨h1, cur, bs0, by simp [bs', h1], h3, h6, by rw [List.length_append]; exact h4, h5, hw, ?_⟩
          rw [List.length_append, h7]
          exact hcells
    · have hex : (bs ++ ex).Nodup := by
        have hp : (bs ++ R.own ++ ex).Perm ((bs ++ ex) ++ R.own) := by
          rw [List.append_assoc, List.append_assoc]
          exact List.Perm.append_left _ List.perm_append_comm
        exact (List.nodup_append.1 (hp.nodup_iff.1 own)).1
      obtain ⟨e1, e2, e3⟩ := List.nodup_append.1 hex
      have : Zs.own [((X, AO.used), []), ((Y, AO.row te sz (l ++ ls)), bs')] = bs' := by simp [Zs.own]
      rw [this]
      cases hnil : L.isNil with
      | true => simp [bs', hnil, e2]
      | false =>
        simp only [bs', hnil, Bool.false_eq_true, if_false]
        obtain ⟨h1, h2, h3⟩ := hblk hnil
        refine List.nodup_append.2 ⟨List.nodup_cons.2 ⟨h2, hbsnd⟩, e2, fun b hb c hc => ?_⟩
        rcases List.mem_cons.1 hb with rfl | hb
        · rcases h1 with h1 | h1
          · exact e3 _ h1 c hc
          · intro e
            have := (G.blk c (by simp [hc])).1
            omega
        · exact e3 b (hbs0 b hb).1 c hc
    · intro b hb
      have hb' : b ∈ bs' ∨ b ∈ ex := by simpa [Zs.own] using hb
      have hold : ∀ b, b ∈ bs ∨ b ∈ ex → b < w'.heap.size ∧ ¬ m.F b ∧ (b ∈ Zs.own [((Y, AO.gone), []), ((X, AO.row te sz l), bs)] ∨ b ∈ ex ∨ m.w.heap.size ≤ b) := by
        intro b hb
        have h1 := G.blk b (by rcases hb with h | h <;> simp [own_cons, h])
        refine ⟨Nat.lt_of_lt_of_le h1.1 hg.size, h1.2, ?_⟩
        rcases hb with h | h
        · exact .inl (by simp [Zs.own, h])
        · exact .inr (.inl h)
      rcases hb' with hb' | hb'
      · cases hnil : L.isNil with
        | true => simp [bs', hnil] at hb'
        | false =>
          simp only [bs', hnil, Bool.false_eq_true, if_false] at hb'
          obtain ⟨h1, h2, h3⟩ := hblk hnil
          rcases List.mem_cons.1 hb' with rfl | hb'
          · rcases h1 with h1 | h1
            · exact hold _ (.inl h1)
            · exact ⟨h3, fun hF' => by have := (hF _ hF').1; omega, .inr (.inr h1)⟩
          · exact hold b (.inl (hbs0 b hb').1)
      · exact hold b (.inr hb')
    · intro b hb
      exact ⟨Nat.lt_of_lt_of_le (hF b hb).1 hg.size, .inl hb⟩
    · simp [Zs.keys, Ne.symm hXY]
    · intro y hy
      simp [Zs.keys] at hy ⊢
      rcases hy with rfl | rfl
      · exact ⟨hXN, .inl (.inr rfl)⟩
      · exact ⟨hYN, .inl (.inl rfl)⟩
    · intro y hy
      simp [Zs.keys]
      rcases hy with hy | rfl
      · exact ⟨G.usedN y hy, .inl hy⟩
      · exact ⟨hYN, .inr (.inl (.inl rfl))⟩
  · have hlen : (l ++ ls).length = l.length + ls.length := List.length_append
    have hform : ∃ A q, v' = .slice A (l.length + ls.length) q := by
      rcases hLv with ⟨_, h2, h3⟩ | ⟨_, cur, h2, _⟩
      · have : l.length + ls.length = 0 := by rw [← hlen, h3]; rfl
        exact ⟨none, 0, by rw [h2, this]⟩
      · exact ⟨_, _, h2⟩
    obtain ⟨A, q, hA⟩ := hform
    refine ⟨rfl, .inr rfl, A, q, by rw [hA], fun L' hL' => ?_⟩
    simp only [m', if_true, Option.some.injEq] at hL'
    subst hL'
    rw [← hA]
    rcases hLv with ⟨h1, h2, h3⟩ | ⟨h1, cur, h2, h3, h4, _⟩
    · exact .inl ⟨h1, h2, rfl, by rw [← hlen, h3]; rfl⟩
    · exact .inr ⟨h1, by omega, 0, by rw [h2, Nat.sub_zero], fun _ => by simp⟩
/-- append of a list that is only read. -/
theorem OpT.append_lst {n : Nat} (T : tRow P t = some (te, sz, by_)) (hn : n = l.length) (hb : (l.length + ls.length) * by_ ≤ 140737488355328) (hm : l.length + ls.length ≤ maxLen) (hqp : q ≠ p) : OpT P ⟨dst, .call ⟨.builtin .append, #[x, y], #[t, t]⟩, ty, pos, after, g⟩ [(x, .sl X 0 n), (y, .lst false t' sz ls)] [(q, (Y, .gone)), (p, (X, .row te sz l))] (.sl Y 0 (n + ls.length)) [(q, (X, .used)), (p, (Y, .row te sz (l ++ ls)))] := by
  subst hn
  intro nt m0 T' S a w hx hS hd hr
  obtain ⟨m, N, Z, rfl, h2, h3, h4⟩ := hr
  have h2' : Z.map (·.1) = S := h2
  have hxa : VV m (.sl X 0 l.length) (a.eval x) [] := h4.ev (hx (x, .sl X 0 l.length) (by simp))
  have hya : VV m (.lst false t' sz ls) (a.eval y) [] := h4.ev (hx (y, .lst false t' sz ls) (by simp))
  have hz : ∀ (q : Nat) (e : Slot), S[q]? = some e → ∃ bs, Z[q]? = some (e, bs) := by
    intro q e h
    rw [← h2', List.getElem?_map] at h
    cases hz : Z[q]? with
    | none => rw [hz] at h; cases h
    | some z => rw [hz] at h; simp only [Option.map_some, Option.some.injEq] at h; exact ⟨z.2, by rw [← h]⟩
  obtain ⟨bsY, hzY⟩ := hz q _ (hS (q, (Y, .gone)) (by simp))
  obtain ⟨bs, hzX⟩ := hz p _ (hS (p, (X, .row te sz l)) (by simp))
  obtain ⟨R, hp1, hp2⟩ := perm_get2 hqp hzY hzX
  have G := h3.perm hp1
  obtain ⟨xs, bs0, hown, hv, hwl, hbs⟩ := ORel.owns (G.obj ((X, .row te sz l), bs) (by simp)) hxa
  obtain ⟨_, A, c, e1, hkc, hws, hrd⟩ := hya
  injection e1 with e1
  obtain ⟨news, hnl, hnc, hnv⟩ : ∃ news : List Value, news.length = ls.length * sz ∧ (0 < ls.length → ∃ b off, A = some ⟨b, off, none⟩ ∧ ∀ j u, news[j]? = some u → m.w.cell? ⟨b, off + j, none⟩ = some u) ∧ VCs m ls news [] := by
    rcases Nat.eq_zero_or_pos ls.length with h0 | h0
    · have : ls = [] := List.eq_nil_of_length_eq_zero h0
      subst this
      exact ⟨[], by simp, fun h => absurd h (by simp), VCs.nil⟩
    · obtain ⟨b, off, arr, tt, r, hA, hF, hb, hc⟩ := hrd h0
      refine ⟨_, by rw [VCs.len _ hc, widths_of hws], fun _ => ⟨b, off, hA, fun j u hj => ?_⟩, hc⟩
      rw [List.getElem?_take] at hj
      split at hj
      · rw [List.getElem?_drop] at hj
        simp only [World.cell?, hb]
        simpa using hj
      · cases hj
  obtain ⟨v', w', hrun, hown', hg, hat⟩ := run_append_any T m.w ty hown hkc hnl hnc (VCs.ones _ hnv) hb hm
  obtain ⟨m', bs', hw', G', hle, hv'⟩ := Good.app G hv hnv (fun e he => by rcases List.mem_append.1 he with h | h; exact hwl e h; exact hws e h) hbs hown' hg hat
  have hex : (execOp a.eval ⟨dst, .call ⟨.builtin .append, #[x, y], #[t, t]⟩, ty, pos, after, g⟩).run P m.w = .ok (.value v') w' := by
    rw [run_builtin]
    simp only [builtin, List.map_toArray, List.map_cons, List.map_nil, e1, Sem.run_bind, hrun, Result.andThen_ok, Sem.run_pure]
  unfold Oper.wp
  rw [hex]
  refine ⟨m', N, _, hw', ?_, G'.perm (hp2 _ _).symm, (h4.mono hle).put hd hv'⟩
  rw [List.map_set, List.map_set, h2']; rfl
end
end Go.Proofs.Ytcfleoaldoebhaa

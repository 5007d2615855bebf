/-
  Part 2 of the texts under the law SaveBack: the layer of abstract values, walks and plain laws. Conditions: those that each theorem names.
-/
import Derived.RangeFuncRecord
import Derived.Lib.SliceRun
import Derived.Laws.StructEq
import Derived.Lib.Overlaps
import Derived.Test.YtbfcbfgpbbkecaaSaveBackP1
namespace Go.Proofs.Ytbfcbfgpbbkecaa
set_option linter.unusedVariables false
set_option linter.unusedSimpArgs false
open Go.RowKit

/-- t is the type of slices of e; an element's zero value has the cells zl, and takes so many bytes. -/
def tRow (P : Program) (t : TypeId) : Option (TypeId × Nat × Nat) := match P.underlying t with
  | some (.slice e) => match P.info? e with
    | some i => match i.zero with
      | some z => match Nat.beq z.cells.size i.size && Nat.blt 0 i.size with
        | true => some (e, i.size, i.bytes)
        | false => none
      | none => none
    | none => none
  | _ => none
theorem tRow_spec {P : Program} {t e : TypeId} {sz by_ : Nat} (h : tRow P t = some (e, sz, by_)) : ∃ i z, P.underlying t = some (.slice e) ∧ P.info? e = some i ∧ i.zero = some z ∧ i.size = sz ∧ i.bytes = by_ ∧ z.cells.size = sz ∧ 0 < sz := by
  unfold tRow at h
  split at h
  · rename_i e' he
    split at h
    · rename_i i hi
      split at h
      · rename_i z hz
        split at h
        · rename_i hb
          simp only [Bool.and_eq_true] at hb
          simp only [Option.some.injEq, Prod.mk.injEq] at h
          obtain ⟨rfl, rfl, rfl⟩ := h
          exact ⟨i, z, he, hi, hz, rfl, rfl, Nat.eq_of_beq_eq_true hb.1, by simpa [Nat.blt_eq] using hb.2⟩
        · cases h
      · cases h
    · cases h
  · cases h

section
variable {P : Program} {nt : Nat} {m0 m : Mem} {N : Nat} {R : Zs} {ex : List Nat} {X Y : Nat} {t te t' ty : TypeId} {sz by_ : Nat} {l ls : List AV} {st : St}
variable {o : Oper} {v : AV} {x y z : Operand} {pos : String} {after : Array Edge} {g : Option (Nat × Bool)} {dst : Option Tmp} {p q : Nat} {u1 u2 : Value}
theorem run_append_any (T : tRow P t = some (te, sz, by_)) (w : World) (ty : TypeId) {v : Value} {n : Nat} {xs news : List Value} (hown : w.ownsRow 0 te sz v n xs) {A : Option Addr} {k c : Nat} (hk : k ≤ c) (hl : news.length = k * sz)
    (hn : 0 < k → ∃ b off, A = some ⟨b, off, none⟩ ∧ ∀ j u, news[j]? = some u → w.cell? ⟨b, off + j, none⟩ = some u) (h1 : ∀ u ∈ news, u.oneCell' = true) (hbytes : (n + k) * by_ ≤ 140737488355328) (hlen : n + k ≤ maxLen) :
    ∃ v' w', (Builtin.append_ #[t, t] ty #[v, .slice A k c]).run P w = .ok v' w' ∧ w'.ownsRow 0 te sz v' (n + k) (xs ++ news) ∧ w.grownBy w' v.ownBlock ∧ (v'.ownBlock = v.ownBlock ∨ v'.ownBlock = some w.heap.size) := by
  obtain ⟨i, z, ht, hi, hz, h3, h4, hzs, hsz⟩ := tRow_spec T
  rcases A with _ | ad
  · have hm : k = 0 := by
      rcases Nat.eq_zero_or_pos k with h0 | h0
      · exact h0
      · obtain ⟨b, off, h, _⟩ := hn h0
        cases h
    subst hm
    have hnn : news = [] := List.eq_nil_of_length_eq_zero (by simpa using hl)
    subst hnn
    refine ⟨v, w, ?_, by simpa using hown, World.grownBy.refl w _, .inl rfl⟩
    rcases hown.2 with ⟨rfl, rfl⟩ | ⟨g, cap, cur, rfl, _, _, hnc, _⟩
    · simp [Builtin.append_, run_underlying ht, sizeOf, typeInfo, hi, Builtin.lenOf, Builtin.firstCells]
    · simp [Builtin.append_, run_underlying ht, sizeOf, typeInfo, hi, Builtin.lenOf, Builtin.firstCells, hnc, storeCells]
  · have hcells : ∀ j u, news[j]? = some u → w.cell? (ad.add j) = some u := by
      intro j u hu
      rcases Nat.eq_zero_or_pos k with h0 | h0
      · subst h0
        have hnn : news = [] := List.eq_nil_of_length_eq_zero (by simpa using hl)
        subst hnn
        simp at hu
      · obtain ⟨b, off, h, hc⟩ := hn h0
        injection h with h
        subst h
        rw [pt_add]
        exact hc j u hu
    obtain ⟨v', w', hrun, h2, h5, _, h6⟩ := run_append_own_at (P := P) w 0 t ty te i z sz by_ ht hi hz h3 h4 hzs hsz v n xs hown ad k c news hl hcells h1 hlen hbytes (Nat.zero_le _)
    exact ⟨v', w', hrun, h2, h5, h6⟩
/-- A row of ours is a row of the kit's. -/
theorem ORel.owns {bs : List Nat} (h : ORel m X (.row te sz l) bs) {u : Value} (hu : VV m (.sl X 0 l.length) u []) : ∃ xs bs0, m.w.ownsRow 0 te sz u l.length xs ∧ VCs m l xs bs0 ∧ (∀ e ∈ l, e.width = sz) ∧ ((u.ownBlock = none ∧ bs = [] ∧ bs0 = []) ∨ ∃ g, u.ownBlock = some g ∧ bs = g :: bs0) := by
  obtain ⟨hU, L, hL, hsz, hO⟩ := h
  obtain ⟨_, _, A, q, e, hs⟩ := hu
  injection e with e
  rcases hs L hL with ⟨h1, h2, _, h3⟩ | ⟨h1, h2, o, h3, h4⟩
  · rcases hO with ⟨_, rfl, rfl⟩ | ⟨h5, _⟩
    · exact ⟨[], [], ⟨by simp, .inl ⟨e.trans h2, rfl⟩⟩, VCs.nil, by simp, .inl ⟨by rw [e, h2]; rfl, rfl, rfl⟩⟩
    · rw [h1] at h5; cases h5
  · rcases hO with ⟨h5, _⟩ | ⟨_, arr, bs0, rfl, h6, h7, h8, h9, h10, h11⟩
    · rw [h1] at h5; cases h5
    · have ho := h4 (.inr rfl)
      rw [Nat.zero_mul] at ho
      subst ho
      refine ⟨arr.toList.take (l.length * sz), bs0, ⟨?_, .inr ⟨L.blk, L.cap, arr, by rw [e, h3, Nat.sub_zero], Nat.zero_le _, h6, h8, h9, h7, rfl⟩⟩, h11, h10, .inr ⟨L.blk, by rw [e, h3]; rfl, rfl⟩⟩
      have h12 := Nat.mul_le_mul_right sz h8
      have h13 : arr.toList.length = L.cap * sz := by simpa using h7
      rw [List.length_take]
      omega
/-- What an append leaves. -/
theorem Good.app {bs bsY : List Nat} (G : Good m0 m N (((Y, .gone), bsY) :: ((X, .row te sz l), bs) :: R) ex) {u v' : Value} {xs news : List Value} {w' : World} {bs0 : List Nat} (hv : VCs m l xs bs0) (hn : VCs m ls news []) (hw : ∀ e ∈ l ++ ls, e.width = sz) (hbs : (u.ownBlock = none ∧ bs = [] ∧ bs0 = []) ∨ ∃ g, u.ownBlock = some g ∧ bs = g :: bs0)
    (hown : w'.ownsRow 0 te sz v' (l.length + ls.length) (xs ++ news)) (hg : m.w.grownBy w' u.ownBlock) (hat : v'.ownBlock = u.ownBlock ∨ v'.ownBlock = some m.w.heap.size) :
    ∃ m' bs', m'.w = w' ∧ Good m0 m' N (((X, .used), []) :: ((Y, .row te sz (l ++ ls)), bs') :: R) ex ∧ m.Le m' ∧ VV m' (.sl Y 0 (l.length + ls.length)) v' [] := by
  obtain ⟨rfl, hYU⟩ := G.obj _ (List.mem_cons_self ..)
  have hXU := (G.obj ((X, .row te sz l), bs) (by simp)).1
  have hYN := G.keyN Y (by simp [Zs.keys])
  have hXN := G.keyN X (by simp [Zs.keys])
  have hXY : Y ≠ X := by have := G.keys; simp [Zs.keys] at this; exact fun e => this.1.1 e
  have own := G.own
  simp only [own_cons, List.nil_append] at own
  -- the new place
  obtain ⟨L, hLv⟩ : ∃ L : Loc, L.sz = sz ∧ ((L.isNil = true ∧ v' = .slice none 0 0 ∧ l ++ ls = []) ∨ (L.isNil = false ∧ ∃ cur, v' = .slice (some ⟨L.blk, 0, none⟩) (l.length + ls.length) L.cap ∧ w'.heap[L.blk]? = some (.cells cur te (0, 0)) ∧ l.length + ls.length ≤ L.cap ∧ L.cap ≤ maxLen ∧ cur.size = L.cap * sz ∧ cur.toList.take ((l.length + ls.length) * sz) = xs ++ news)) := by
    rcases hown.2 with ⟨h1, h2⟩ | ⟨g, cap, cur, h1, _, h3, h4, h5, h6, h7⟩
    · exact ⟨⟨0, 0, sz, true⟩, rfl, .inl ⟨rfl, h1, List.eq_nil_of_length_eq_zero (by rw [List.length_append]; exact h2)⟩⟩
    · exact ⟨⟨g, cap, sz, false⟩, rfl, .inr ⟨rfl, cur, h1, h3, h4, h5, h6, h7⟩⟩
  obtain ⟨hLs, hLv⟩ := hLv
  let m' : Mem := ⟨fun y => if y = Y then some L else m.μ y, fun y => m.U y ∨ y = Y, w', m.F⟩
  have hF : ∀ b, m.F b → b < m.w.heap.size ∧ b ∉ bs := fun b hb => ⟨G.frz b hb, fun h => (G.blk b (by simp [own_cons, h])).2 hb⟩
  have hrow : ∀ b, u.ownBlock = some b → b ∈ bs := by
    intro b hb
    rcases hbs with ⟨h1, _⟩ | ⟨g, h1, h2⟩
    · rw [h1] at hb; cases hb
    · rw [h1] at hb; injection hb with hb; subst hb; simp [h2]
  have hsame : ∀ b, b < m.w.heap.size → u.ownBlock ≠ some b → w'.heap[b]? = m.w.heap[b]? := fun b hb hne => hg.block b hb (fun e => hne e.symm)
  have hle : m.Le m' := by
    refine ⟨fun y h => .inl h, fun y L' hy hL => ?_, fun b hb => ⟨hb, hsame b (hF b hb).1 (fun e => (hF b hb).2 (hrow b e))⟩⟩
    simp only [m'] at hL
    split at hL
    · rename_i e; subst e; exact absurd hy hYU
    · exact hL
  -- the block of the new row
  have hblk : L.isNil = false → (L.blk ∈ bs ∨ m.w.heap.size ≤ L.blk) ∧ L.blk ∉ bs0 ∧ L.blk < w'.heap.size := by
    intro hnil
    rcases hLv with ⟨h, _⟩ | ⟨_, cur, h1, h2, _⟩
    · rw [hnil] at h; cases h
    · have hob : v'.ownBlock = some L.blk := by rw [h1]; rfl
      have hlt := lt_of_block h2
      rw [hob] at hat
      rcases hat with h | h
      · have hin := hrow _ h.symm
        refine ⟨.inl hin, ?_, hlt⟩
        rcases hbs with ⟨h5, _⟩ | ⟨g, h5, h6⟩
        · rw [h5] at h; cases h
        · rw [h5] at h
          injection h with h
          rw [h6, List.append_assoc] at own
          rw [h]
          exact fun hc => (List.nodup_cons.1 own).1 (by simp [hc])
      · injection h with h
        refine ⟨.inr (by omega), fun hc => ?_, hlt⟩
        have hb0 : L.blk ∈ bs := by
          rcases hbs with ⟨_, _, h6⟩ | ⟨g, _, h6⟩
          · rw [h6] at hc; cases hc
          · rw [h6]; simp [hc]
        have := (G.blk L.blk (by simp [own_cons, hb0])).1
        omega
  have hbs0 : ∀ b ∈ bs0, b ∈ bs ∧ u.ownBlock ≠ some b := by
    intro b hb
    rcases hbs with ⟨_, _, h6⟩ | ⟨g, h5, h6⟩
    · rw [h6] at hb; cases hb
    · refine ⟨by rw [h6]; simp [hb], fun e => ?_⟩
      rw [h5] at e
      injection e with e
      rw [h6, List.append_assoc] at own
      exact (List.nodup_cons.1 own).1 (by simp [e, hb])
  have hbsnd : bs0.Nodup := by
    rcases hbs with ⟨_, _, h6⟩ | ⟨g, _, h6⟩
    · rw [h6]; exact List.nodup_nil
    · rw [h6, List.append_assoc] at own
      exact (List.nodup_append.1 (List.nodup_cons.1 own).2).1
  have hcells : VCs m' (l ++ ls) (xs ++ news) bs0 := by
    have h1 := VCs.mono hle l (fun b hb => hsame b (G.blk b (by simp [own_cons, (hbs0 b hb).1])).1 (hbs0 b hb).2) hv
    have h2 := VCs.mono hle ls (by simp) hn
    simpa using h1.append h2
  let bs' := if L.isNil then [] else L.blk :: bs0
  refine ⟨m', bs', rfl, ?_, hle, ?_⟩
  · refine Good.swap (zs := [((Y, .gone), []), ((X, .row te sz l), bs)]) (zs' := [((X, .used), []), ((Y, .row te sz (l ++ ls)), bs')]) G hle (Nat.le_refl _) ?_ ?_ ?_ ?_ ?_ ?_ ?_ ?_ ?_ hg.os hg.tape hg.output hg.size
    · intro b hb _
      have : b ≠ Y := fun e => hb (by simp [Zs.keys, e])
      simp [m', this]
    · intro b hb h1 _
      exact hsame b hb fun e => h1 (by simp [Zs.own, hrow b e])
    · intro z hz
      simp only [List.mem_cons, List.not_mem_nil, or_false] at hz
      rcases hz with rfl | rfl
      · exact ⟨rfl, .inl hXU⟩
      · refine ⟨.inr rfl, L, by simp [m'], hLs, ?_⟩
        rcases hLv with ⟨h1, _, h3⟩ | ⟨h1, cur, h2, h3, h4, h5, h6, h7⟩
        · exact .inl ⟨h1, h3, by simp [bs', h1]⟩
        · refine .inr ⟨h1, cur, bs0, by simp [bs', h1], h3, h6, by rw [List.length_append]; exact h4, h5, hw, ?_⟩
          rw [List.length_append, h7]
          exact hcells
    · have hex : (bs ++ ex).Nodup := by
        have hp : (bs ++ R.own ++ ex).Perm ((bs ++ ex) ++ R.own) := by
          rw [List.append_assoc, List.append_assoc]
          exact List.Perm.append_left _ List.perm_append_comm
        exact (List.nodup_append.1 (hp.nodup_iff.1 own)).1
      obtain ⟨e1, e2, e3⟩ := List.nodup_append.1 hex
      have : Zs.own [((X, AO.used), []), ((Y, AO.row te sz (l ++ ls)), bs')] = bs' := by simp [Zs.own]
      rw [this]
      cases hnil : L.isNil with
      | true => simp [bs', hnil, e2]
      | false =>
        simp only [bs', hnil, Bool.false_eq_true, if_false]
        obtain ⟨h1, h2, h3⟩ := hblk hnil
        refine List.nodup_append.2 ⟨List.nodup_cons.2 ⟨h2, hbsnd⟩, e2, fun b hb c hc => ?_⟩
        rcases List.mem_cons.1 hb with rfl | hb
        · rcases h1 with h1 | h1
          · exact e3 _ h1 c hc
          · intro e
            have := (G.blk c (by simp [hc])).1
            omega
        · exact e3 b (hbs0 b hb).1 c hc
    · intro b hb
      have hb' : b ∈ bs' ∨ b ∈ ex := by simpa [Zs.own] using hb
      have hold : ∀ b, b ∈ bs ∨ b ∈ ex → b < w'.heap.size ∧ ¬ m.F b ∧ (b ∈ Zs.own [((Y, AO.gone), []), ((X, AO.row te sz l), bs)] ∨ b ∈ ex ∨ m.w.heap.size ≤ b) := by
        intro b hb
        have h1 := G.blk b (by rcases hb with h | h <;> simp [own_cons, h])
        refine ⟨Nat.lt_of_lt_of_le h1.1 hg.size, h1.2, ?_⟩
        rcases hb with h | h
        · exact .inl (by simp [Zs.own, h])
        · exact .inr (.inl h)
      rcases hb' with hb' | hb'
      · cases hnil : L.isNil with
        | true => simp [bs', hnil] at hb'
        | false =>
          simp only [bs', hnil, Bool.false_eq_true, if_false] at hb'
          obtain ⟨h1, h2, h3⟩ := hblk hnil
          rcases List.mem_cons.1 hb' with rfl | hb'
          · rcases h1 with h1 | h1
            · exact hold _ (.inl h1)
            · exact ⟨h3, fun hF' => by have := (hF _ hF').1; omega, .inr (.inr h1)⟩
          · exact hold b (.inl (hbs0 b hb').1)
      · exact hold b (.inr hb')
    · intro b hb
      exact ⟨Nat.lt_of_lt_of_le (hF b hb).1 hg.size, .inl hb⟩
    · simp [Zs.keys, Ne.symm hXY]
    · intro y hy
      simp [Zs.keys] at hy ⊢
      rcases hy with rfl | rfl
      · exact ⟨hXN, .inl (.inr rfl)⟩
      · exact ⟨hYN, .inl (.inl rfl)⟩
    · intro y hy
      simp [Zs.keys]
      rcases hy with hy | rfl
      · exact ⟨G.usedN y hy, .inl hy⟩
      · exact ⟨hYN, .inr (.inl (.inl rfl))⟩
  · have hlen : (l ++ ls).length = l.length + ls.length := List.length_append
    have hform : ∃ A q, v' = .slice A (l.length + ls.length) q := by
      rcases hLv with ⟨_, h2, h3⟩ | ⟨_, cur, h2, _⟩
      · have : l.length + ls.length = 0 := by rw [← hlen, h3]; rfl
        exact ⟨none, 0, by rw [h2, this]⟩
      · exact ⟨_, _, h2⟩
    obtain ⟨A, q, hA⟩ := hform
    refine ⟨rfl, .inr rfl, A, q, by rw [hA], fun L' hL' => ?_⟩
    simp only [m', if_true, Option.some.injEq] at hL'
    subst hL'
    rw [← hA]
    rcases hLv with ⟨h1, h2, h3⟩ | ⟨h1, cur, h2, h3, h4, _⟩
    · exact .inl ⟨h1, h2, rfl, by rw [← hlen, h3]; rfl⟩
    · exact .inr ⟨h1, by omega, 0, by rw [h2, Nat.sub_zero], fun _ => by simp⟩
/-- append of a list that is only read. -/
theorem OpT.append_lst {n : Nat} (T : tRow P t = some (te, sz, by_)) (hn : n = l.length) (hb : (l.length + ls.length) * by_ ≤ 140737488355328) (hm : l.length + ls.length ≤ maxLen) (hqp : q ≠ p) : OpT P ⟨dst, .call ⟨.builtin .append, #[x, y], #[t, t]⟩, ty, pos, after, g⟩ [(x, .sl X 0 n), (y, .lst false t' sz ls)] [(q, (Y, .gone)), (p, (X, .row te sz l))] (.sl Y 0 (n + ls.length)) [(q, (X, .used)), (p, (Y, .row te sz (l ++ ls)))] := by
  subst hn
  intro nt m0 T' S a w hx hS hd hr
  obtain ⟨m, N, Z, rfl, h2, h3, h4⟩ := hr
  have h2' : Z.map (·.1) = S := h2
  have hxa : VV m (.sl X 0 l.length) (a.eval x) [] := h4.ev (hx (x, .sl X 0 l.length) (by simp))
  have hya : VV m (.lst false t' sz ls) (a.eval y) [] := h4.ev (hx (y, .lst false t' sz ls) (by simp))
  have hz : ∀ (q : Nat) (e : Slot), S[q]? = some e → ∃ bs, Z[q]? = some (e, bs) := by
    intro q e h
    rw [← h2', List.getElem?_map] at h
    cases hz : Z[q]? with
    | none => rw [hz] at h; cases h
    | some z => rw [hz] at h; simp only [Option.map_some, Option.some.injEq] at h; exact ⟨z.2, by rw [← h]⟩
  obtain ⟨bsY, hzY⟩ := hz q _ (hS (q, (Y, .gone)) (by simp))
  obtain ⟨bs, hzX⟩ := hz p _ (hS (p, (X, .row te sz l)) (by simp))
  obtain ⟨R, hp1, hp2⟩ := perm_get2 hqp hzY hzX
  have G := h3.perm hp1
  obtain ⟨xs, bs0, hown, hv, hwl, hbs⟩ := ORel.owns (G.obj ((X, .row te sz l), bs) (by simp)) hxa
  obtain ⟨_, A, c, e1, hkc, hws, hrd⟩ := hya
  injection e1 with e1
  obtain ⟨news, hnl, hnc, hnv⟩ : ∃ news : List Value, news.length = ls.length * sz ∧ (0 < ls.length → ∃ b off, A = some ⟨b, off, none⟩ ∧ ∀ j u, news[j]? = some u → m.w.cell? ⟨b, off + j, none⟩ = some u) ∧ VCs m ls news [] := by
    rcases Nat.eq_zero_or_pos ls.length with h0 | h0
    · have : ls = [] := List.eq_nil_of_length_eq_zero h0
      subst this
      exact ⟨[], by simp, fun h => absurd h (by simp), VCs.nil⟩
    · obtain ⟨b, off, arr, tt, r, hA, hF, hb, hc⟩ := hrd h0
      refine ⟨_, by rw [VCs.len _ hc, widths_of hws], fun _ => ⟨b, off, hA, fun j u hj => ?_⟩, hc⟩
      rw [List.getElem?_take] at hj
      split at hj
      · rw [List.getElem?_drop] at hj
        simp only [World.cell?, hb]
        simpa using hj
      · cases hj
  obtain ⟨v', w', hrun, hown', hg, hat⟩ := run_append_any T m.w ty hown hkc hnl hnc (VCs.ones _ hnv) hb hm
  obtain ⟨m', bs', hw', G', hle, hv'⟩ := Good.app G hv hnv (fun e he => by rcases List.mem_append.1 he with h | h; exact hwl e h; exact hws e h) hbs hown' hg hat
  have hex : (execOp a.eval ⟨dst, .call ⟨.builtin .append, #[x, y], #[t, t]⟩, ty, pos, after, g⟩).run P m.w = .ok (.value v') w' := by
    rw [run_builtin]
    simp only [builtin, List.map_toArray, List.map_cons, List.map_nil, e1, Sem.run_bind, hrun, Result.andThen_ok, Sem.run_pure]
  unfold Oper.wp
  rw [hex]
  refine ⟨m', N, _, hw', ?_, G'.perm (hp2 _ _).symm, (h4.mono hle).put hd hv'⟩
  rw [List.map_set, List.map_set, h2']; rfl
end
end Go.Proofs.Ytbfcbfgpbbkecaa

namespace Go.Proofs.Ytbfcbfgpbbkecaa
set_option linter.unusedVariables false
variable {ro : Option Nat}
set_option linter.unusedSimpArgs false
open Go.RowKit

class TAg (P : Program) (t : TypeId) (b : outParam Bool) : Prop where h : tAgg P t = some b
class TSize (P : Program) (t : TypeId) (n : outParam Nat) : Prop where h : tSz P t = some n
class TEl (P : Program) (t : TypeId) (e : outParam TypeId) : Prop where h : tElem P t = some e
class TFl (P : Program) (s : TypeId) (f : Nat) (off : outParam Nat) (ft : outParam TypeId) : Prop where h : tFld P s f = some (off, ft)
class TSt (P : Program) (t : TypeId) (zl : outParam (List Value)) (pl : outParam (List (Nat × Nat))) : Prop where h : tStr P t = some (zl, pl)
class TZe (P : Program) (t : TypeId) (zl : outParam (List Value)) : Prop where h : tZ P t = some zl
class TBy (P : Program) (t : TypeId) (n : outParam Nat) : Prop where h : (P.info? t).map (·.bytes) = some n
class TRo (P : Program) (t : TypeId) (te : outParam TypeId) (sz by_ : outParam Nat) : Prop where h : tRow P t = some (te, sz, by_)
class TSg (P : Program) (t : TypeId) : Prop where h : P.underlying t = some .string

/-- The operand x reads as v; under open guards (some cs): if all of cs. -/
def Rd : Option (List Bool) → List (Nat × AV) → Operand → AV → Prop
  | none, T, x, v => ev T x = some v
  | some cs, T, x, v => ∃ w, ev T x = some w ∧ Strips cs w v
theorem Strips.a1 {c : Bool} {v : AV} : Strips [c] (.opt c v) v := .step (by simp) .refl
theorem Strips.b12 {c d : Bool} {v : AV} : Strips [c, d] (.opt c (.opt d v)) v := .step (by simp) (.step (by simp) .refl)
theorem Rd.q {cs : List Bool} {T : List (Nat × AV)} {x : Operand} {w v : AV} (h : ev T x = some w) (k : Strips cs w v) : Rd (some cs) T x v := ⟨w, h, k⟩
inductive Rds (c : Option (List Bool)) (T : List (Nat × AV)) : List (Operand × AV) → Prop
  | nil : Rds c T []
  | cons {x : Operand} {v : AV} {r : List (Operand × AV)} (h : Rd c T x v) (k : Rds c T r) : Rds c T ((x, v) :: r)
structure Stp (c : Option (List Bool)) (P : Program) (o : Oper) (T : List (Nat × AV)) (S : List Slot) (xs : List (Operand × AV)) (rS : List (Nat × Slot)) (v : AV) (wS : List (Nat × Slot)) : Prop where
  op : OpT P o xs rS v wS
  rd : Rds c T xs
  get : Gets S rS
theorem Rds.evs {T : List (Nat × AV)} {xs : List (Operand × AV)} (h : Rds none T xs) : Evs T xs := by
  induction h with
  | nil => exact .nil
  | cons h _ ih => exact .cons h ih
theorem Rds.evcs {c : List Bool} {T : List (Nat × AV)} {xs : List (Operand × AV)} (h : Rds (some c) T xs) : EvCs c T xs := by
  induction h with
  | nil => exact .nil
  | cons h _ ih => obtain ⟨w, h, hs⟩ := h; exact .cons h hs ih
section
variable {P : Program} {nt : Nat} {ops : Array Oper} {Q : Exit → St → Prop} {rest : List Oper} {st' : St} {T : List (Nat × AV)} {S : List Slot} {xs : List (Operand × AV)} {rS wS : List (Nat × Slot)} {v : AV} {effs : List Eff} {op : Op} {ty : TypeId} {pos : String} {after : Array Edge} {dst : Option Tmp}
/-- An operation that turns no object; one that does; under a guard that is met; under a guard that is open; under one that is not met. -/
theorem AOps.p (h : Stp none P ⟨dst, op, ty, pos, after, none⟩ T S xs rS v []) (hd : dstOk dst nt = true) (k : AOps ro P nt ops Q rest ⟨putD T dst v, S⟩) : AOps ro P nt ops Q (⟨dst, op, ty, pos, after, none⟩ :: rest) ⟨T, S⟩ := .step rfl h.op h.rd.evs h.get hd k
theorem AOps.s (h : Stp none P ⟨dst, op, ty, pos, after, none⟩ T S xs rS v wS) (hd : dstOk dst nt = true) (k : AOps ro P nt ops Q rest ⟨putD T dst v, setAll S wS⟩) : AOps ro P nt ops Q (⟨dst, op, ty, pos, after, none⟩ :: rest) ⟨T, S⟩ := .step rfl h.op h.rd.evs h.get hd k
theorem AOps.sQ {g : Nat} {b b' : Bool} {t : Nat} {wg : AV} {cs : List Bool} (ht : (ops[g]?).bind (·.dst) = some t) (hv : look T t = some wg) (hc : condOf wg = some (cs, b')) (h : Stp (some (cs ++ [b' == b])) P ⟨dst, op, ty, pos, after, some (g, b)⟩ T S xs rS v []) (hd : dstOk dst nt = true) (hos : onceT xs = true)
    (k : AOps ro P nt ops Q rest ⟨putD T dst (mkOpt (cs ++ [b' == b]) v), S⟩) : AOps ro P nt ops Q (⟨dst, op, ty, pos, after, some (g, b)⟩ :: rest) ⟨T, S⟩ := .stepQ rfl ht hv hc (fun _ => h.op) h.rd.evcs h.get hd hos k
theorem AOps.sN {g : Nat} {b b' : Bool} {t : Nat} (ht : (ops[g]?).bind (·.dst) = some t) (hv : look T t = some (.prim (.bool b'))) (hb : b' = !b) (hd : dstOk dst nt = true) (k : AOps ro P nt ops Q rest ⟨putD T dst .dead, S⟩) : AOps ro P nt ops Q (⟨dst, op, ty, pos, after, some (g, b)⟩ :: rest) ⟨T, S⟩ := .skipG rfl ht hv hb hd k
theorem AOps.sQ1 {g : Nat} {b b' : Bool} {t : Nat} (h : Stp (some [b' == b]) P ⟨dst, op, ty, pos, after, some (g, b)⟩ T S xs rS v []) (ht : (ops[g]?).bind (·.dst) = some t) (hv : look T t = some (.prim (.bool b'))) (hd : dstOk dst nt = true) (hos : onceT xs = true)
    (k : AOps ro P nt ops Q rest ⟨putD T dst (.opt (b' == b) v), S⟩) : AOps ro P nt ops Q (⟨dst, op, ty, pos, after, some (g, b)⟩ :: rest) ⟨T, S⟩ := AOps.sQ ht hv rfl h hd hos k
theorem AOps.sQ2 {c1 : Bool} {g : Nat} {b b' : Bool} {t : Nat} (h : Stp (some [c1, b' == b]) P ⟨dst, op, ty, pos, after, some (g, b)⟩ T S xs rS v []) (ht : (ops[g]?).bind (·.dst) = some t) (hv : look T t = some (.opt c1 (.prim (.bool b')))) (hd : dstOk dst nt = true) (hos : onceT xs = true)
    (k : AOps ro P nt ops Q rest ⟨putD T dst (.opt c1 (.opt (b' == b) v)), S⟩) : AOps ro P nt ops Q (⟨dst, op, ty, pos, after, some (g, b)⟩ :: rest) ⟨T, S⟩ := AOps.sQ ht hv rfl h hd hos k
theorem AOps.sQ3 {c1 c2 : Bool} {g : Nat} {b b' : Bool} {t : Nat} (h : Stp (some [c1, c2, b' == b]) P ⟨dst, op, ty, pos, after, some (g, b)⟩ T S xs rS v []) (ht : (ops[g]?).bind (·.dst) = some t) (hv : look T t = some (.opt c1 (.opt c2 (.prim (.bool b'))))) (hd : dstOk dst nt = true) (hos : onceT xs = true)
    (k : AOps ro P nt ops Q rest ⟨putD T dst (.opt c1 (.opt c2 (.opt (b' == b) v))), S⟩) : AOps ro P nt ops Q (⟨dst, op, ty, pos, after, some (g, b)⟩ :: rest) ⟨T, S⟩ := AOps.sQ ht hv rfl h hd hos k
theorem Run.p (h : Stp none P ⟨dst, op, ty, pos, after, none⟩ T S xs rS v []) (hd : dstOk dst nt = true) (k : Run P nt ops rest ⟨putD T dst v, S⟩ effs st') : Run P nt ops (⟨dst, op, ty, pos, after, none⟩ :: rest) ⟨T, S⟩ (⟨⟨dst, op, ty, pos, after, none⟩, tmpsOf xs, rS.map (·.1), v, []⟩ :: effs) st' := .step rfl h.op h.rd.evs h.get hd k
theorem Run.s (h : Stp none P ⟨dst, op, ty, pos, after, none⟩ T S xs rS v wS) (hd : dstOk dst nt = true) (k : Run P nt ops rest ⟨putD T dst v, setAll S wS⟩ effs st') : Run P nt ops (⟨dst, op, ty, pos, after, none⟩ :: rest) ⟨T, S⟩ (⟨⟨dst, op, ty, pos, after, none⟩, tmpsOf xs, rS.map (·.1), v, wS⟩ :: effs) st' := .step rfl h.op h.rd.evs h.get hd k
theorem Run.sG {g : Nat} {b b' : Bool} {t : Nat} (ht : (ops[g]?).bind (·.dst) = some t) (hv : look T t = some (.prim (.bool b'))) (hb : b' = b) (h : Stp none P ⟨dst, op, ty, pos, after, some (g, b)⟩ T S xs rS v wS) (hd : dstOk dst nt = true) (k : Run P nt ops rest ⟨putD T dst v, setAll S wS⟩ effs st') : Run P nt ops (⟨dst, op, ty, pos, after, some (g, b)⟩ :: rest) ⟨T, S⟩ (⟨⟨dst, op, ty, pos, after, some (g, b)⟩, t :: tmpsOf xs, rS.map (·.1), v, wS⟩ :: effs) st' :=
  .stepG rfl ht hv hb h.op h.rd.evs h.get hd k
theorem Run.sQ {g : Nat} {b b' : Bool} {t : Nat} {wg : AV} {cs : List Bool} (ht : (ops[g]?).bind (·.dst) = some t) (hv : look T t = some wg) (hc : condOf wg = some (cs, b')) (h : Stp (some (cs ++ [b' == b])) P ⟨dst, op, ty, pos, after, some (g, b)⟩ T S xs rS v []) (hd : dstOk dst nt = true) (hos : onceT xs = true)
    (k : Run P nt ops rest ⟨putD T dst (mkOpt (cs ++ [b' == b]) v), S⟩ effs st') : Run P nt ops (⟨dst, op, ty, pos, after, some (g, b)⟩ :: rest) ⟨T, S⟩ (⟨⟨dst, op, ty, pos, after, some (g, b)⟩, t :: tmpsOf xs, rS.map (·.1), mkOpt (cs ++ [b' == b]) v, []⟩ :: effs) st' := .stepQ rfl ht hv hc (fun _ => h.op) h.rd.evcs h.get hd hos k
theorem Run.sN {g : Nat} {b b' : Bool} {t : Nat} (ht : (ops[g]?).bind (·.dst) = some t) (hv : look T t = some (.prim (.bool b'))) (hb : b' = !b) (hd : dstOk dst nt = true) (k : Run P nt ops rest ⟨putD T dst .dead, S⟩ effs st') : Run P nt ops (⟨dst, op, ty, pos, after, some (g, b)⟩ :: rest) ⟨T, S⟩ (⟨⟨dst, op, ty, pos, after, some (g, b)⟩, [t], [], .dead, []⟩ :: effs) st' := .skipG rfl ht hv hb hd k
theorem Run.sQ1 {g : Nat} {b b' : Bool} {t : Nat} (h : Stp (some [b' == b]) P ⟨dst, op, ty, pos, after, some (g, b)⟩ T S xs rS v []) (ht : (ops[g]?).bind (·.dst) = some t) (hv : look T t = some (.prim (.bool b'))) (hd : dstOk dst nt = true) (hos : onceT xs = true)
    (k : Run P nt ops rest ⟨putD T dst (.opt (b' == b) v), S⟩ effs st') : Run P nt ops (⟨dst, op, ty, pos, after, some (g, b)⟩ :: rest) ⟨T, S⟩ (⟨⟨dst, op, ty, pos, after, some (g, b)⟩, t :: tmpsOf xs, rS.map (·.1), (.opt (b' == b) v), []⟩ :: effs) st' := Run.sQ ht hv rfl h hd hos k
theorem Run.sQ2 {c1 : Bool} {g : Nat} {b b' : Bool} {t : Nat} (h : Stp (some [c1, b' == b]) P ⟨dst, op, ty, pos, after, some (g, b)⟩ T S xs rS v []) (ht : (ops[g]?).bind (·.dst) = some t) (hv : look T t = some (.opt c1 (.prim (.bool b')))) (hd : dstOk dst nt = true) (hos : onceT xs = true)
    (k : Run P nt ops rest ⟨putD T dst (.opt c1 (.opt (b' == b) v)), S⟩ effs st') : Run P nt ops (⟨dst, op, ty, pos, after, some (g, b)⟩ :: rest) ⟨T, S⟩ (⟨⟨dst, op, ty, pos, after, some (g, b)⟩, t :: tmpsOf xs, rS.map (·.1), (.opt c1 (.opt (b' == b) v)), []⟩ :: effs) st' := Run.sQ ht hv rfl h hd hos k
theorem Run.sQ3 {c1 c2 : Bool} {g : Nat} {b b' : Bool} {t : Nat} (h : Stp (some [c1, c2, b' == b]) P ⟨dst, op, ty, pos, after, some (g, b)⟩ T S xs rS v []) (ht : (ops[g]?).bind (·.dst) = some t) (hv : look T t = some (.opt c1 (.opt c2 (.prim (.bool b'))))) (hd : dstOk dst nt = true) (hos : onceT xs = true)
    (k : Run P nt ops rest ⟨putD T dst (.opt c1 (.opt c2 (.opt (b' == b) v))), S⟩ effs st') : Run P nt ops (⟨dst, op, ty, pos, after, some (g, b)⟩ :: rest) ⟨T, S⟩ (⟨⟨dst, op, ty, pos, after, some (g, b)⟩, t :: tmpsOf xs, rS.map (·.1), (.opt c1 (.opt c2 (.opt (b' == b) v))), []⟩ :: effs) st' := Run.sQ ht hv rfl h hd hos k
/-! ### gates: which operation stands ahead -/
section
variable {P : Program} {nt : Nat} {ops : Array Oper} {Q : Exit → St → Prop} {rest : List Oper} {st st' : St} {effs : List Eff} {ty t t2 : TypeId} {pos : String} {after : Array Edge} {dst : Option Tmp} {g : Option (Nat × Bool)} {x y z : Operand} {f n : Nat} {ar : Array (Nat × Operand)}
theorem AOps.gQ {op : Op} {g : Nat × Bool} (k : AOps ro P nt ops Q (⟨dst, op, ty, pos, after, some g⟩ :: rest) st) : AOps ro P nt ops Q (⟨dst, op, ty, pos, after, some g⟩ :: rest) st := k
theorem AOps.g_box (k : AOps ro P nt ops Q (⟨dst, .box t x, ty, pos, after, g⟩ :: rest) st) : AOps ro P nt ops Q (⟨dst, .box t x, ty, pos, after, g⟩ :: rest) st := k
end
/-! ### runs of a drawn region -/
def RGo (P : Program) (nt : Nat) (ops : Array Oper) (l : List Oper) (Q : Exit → St → Prop) (rest : List Oper) (acc : List Eff) (st : St) : Prop :=
  ∃ effs st', Run P nt ops rest st effs st' ∧ compat (acc ++ effs) (masks l []) = true ∧ Q .normal st'
theorem AWP.region_run {P : Program} {nt : Nat} {Q : Exit → St → Prop} {id : Nat} {l : List Oper} {st : St} (hm : P.follows .mixedOrders = true) (hdn : down l 0 = true) (h : RGo P nt l.toArray l Q l [] st) : AWP ro P nt (.region id l.toArray true) Q st := by
  obtain ⟨effs, st', h1, h2, h3⟩ := h
  exact .region_any hm h1 (by simpa using h2) hdn h3
section
variable {P : Program} {nt : Nat} {ops : Array Oper} {Q : Exit → St → Prop} {l rest : List Oper} {acc : List Eff} {st : St} {T : List (Nat × AV)} {S : List Slot} {xs : List (Operand × AV)} {rS wS : List (Nat × Slot)} {v : AV} {op : Op} {ty : TypeId} {pos : String} {after : Array Edge} {dst : Option Tmp}
theorem RGo.nil (hc : compat acc (masks l []) = true) (k : Q .normal st) : RGo P nt ops l Q [] acc st := ⟨[], st, .nil, by simpa using hc, k⟩
theorem RGo.step_ {o : Oper} {e : Eff} {st' : St} (h : ∀ {effs st''}, Run P nt ops rest st' effs st'' → Run P nt ops (o :: rest) st (e :: effs) st'') (k : RGo P nt ops l Q rest (acc ++ [e]) st') : RGo P nt ops l Q (o :: rest) acc st := by
  obtain ⟨effs, st'', h1, h2, h3⟩ := k
  exact ⟨_, _, h h1, by simpa using h2, h3⟩
theorem RGo.p (h : Stp none P ⟨dst, op, ty, pos, after, none⟩ T S xs rS v []) (hd : dstOk dst nt = true) (k : RGo P nt ops l Q rest (acc ++ [⟨⟨dst, op, ty, pos, after, none⟩, tmpsOf xs, rS.map (·.1), v, []⟩]) ⟨putD T dst v, S⟩) : RGo P nt ops l Q (⟨dst, op, ty, pos, after, none⟩ :: rest) acc ⟨T, S⟩ := RGo.step_ (fun r => Run.p h hd r) k
theorem RGo.s (h : Stp none P ⟨dst, op, ty, pos, after, none⟩ T S xs rS v wS) (hd : dstOk dst nt = true) (k : RGo P nt ops l Q rest (acc ++ [⟨⟨dst, op, ty, pos, after, none⟩, tmpsOf xs, rS.map (·.1), v, wS⟩]) ⟨putD T dst v, setAll S wS⟩) : RGo P nt ops l Q (⟨dst, op, ty, pos, after, none⟩ :: rest) acc ⟨T, S⟩ := RGo.step_ (fun r => Run.s h hd r) k
theorem RGo.sG {g : Nat} {b b' : Bool} {t : Nat} (ht : (ops[g]?).bind (·.dst) = some t) (hv : look T t = some (.prim (.bool b'))) (hb : b' = b) (h : Stp none P ⟨dst, op, ty, pos, after, some (g, b)⟩ T S xs rS v wS) (hd : dstOk dst nt = true) (k : RGo P nt ops l Q rest (acc ++ [⟨⟨dst, op, ty, pos, after, some (g, b)⟩, t :: tmpsOf xs, rS.map (·.1), v, wS⟩]) ⟨putD T dst v, setAll S wS⟩) : RGo P nt ops l Q (⟨dst, op, ty, pos, after, some (g, b)⟩ :: rest) acc ⟨T, S⟩ := RGo.step_ (fun r => Run.sG ht hv hb h hd r) k
theorem RGo.sQ1 {g : Nat} {b b' : Bool} {t : Nat} (h : Stp (some [b' == b]) P ⟨dst, op, ty, pos, after, some (g, b)⟩ T S xs rS v []) (ht : (ops[g]?).bind (·.dst) = some t) (hv : look T t = some (.prim (.bool b'))) (hd : dstOk dst nt = true) (hos : onceT xs = true)
    (k : RGo P nt ops l Q rest (acc ++ [⟨⟨dst, op, ty, pos, after, some (g, b)⟩, t :: tmpsOf xs, rS.map (·.1), (.opt (b' == b) v), []⟩]) ⟨putD T dst (.opt (b' == b) v), S⟩) : RGo P nt ops l Q (⟨dst, op, ty, pos, after, some (g, b)⟩ :: rest) acc ⟨T, S⟩ := RGo.step_ (fun r => Run.sQ1 h ht hv hd hos r) k
theorem RGo.sQ2 {c1 : Bool} {g : Nat} {b b' : Bool} {t : Nat} (h : Stp (some [c1, b' == b]) P ⟨dst, op, ty, pos, after, some (g, b)⟩ T S xs rS v []) (ht : (ops[g]?).bind (·.dst) = some t) (hv : look T t = some (.opt c1 (.prim (.bool b')))) (hd : dstOk dst nt = true) (hos : onceT xs = true)
    (k : RGo P nt ops l Q rest (acc ++ [⟨⟨dst, op, ty, pos, after, some (g, b)⟩, t :: tmpsOf xs, rS.map (·.1), (.opt c1 (.opt (b' == b) v)), []⟩]) ⟨putD T dst (.opt c1 (.opt (b' == b) v)), S⟩) : RGo P nt ops l Q (⟨dst, op, ty, pos, after, some (g, b)⟩ :: rest) acc ⟨T, S⟩ := RGo.step_ (fun r => Run.sQ2 h ht hv hd hos r) k
theorem RGo.sQ3 {c1 c2 : Bool} {g : Nat} {b b' : Bool} {t : Nat} (h : Stp (some [c1, c2, b' == b]) P ⟨dst, op, ty, pos, after, some (g, b)⟩ T S xs rS v []) (ht : (ops[g]?).bind (·.dst) = some t) (hv : look T t = some (.opt c1 (.opt c2 (.prim (.bool b'))))) (hd : dstOk dst nt = true) (hos : onceT xs = true)
    (k : RGo P nt ops l Q rest (acc ++ [⟨⟨dst, op, ty, pos, after, some (g, b)⟩, t :: tmpsOf xs, rS.map (·.1), (.opt c1 (.opt c2 (.opt (b' == b) v))), []⟩]) ⟨putD T dst (.opt c1 (.opt c2 (.opt (b' == b) v))), S⟩) : RGo P nt ops l Q (⟨dst, op, ty, pos, after, some (g, b)⟩ :: rest) acc ⟨T, S⟩ := RGo.step_ (fun r => Run.sQ3 h ht hv hd hos r) k
theorem RGo.sN {g : Nat} {b b' : Bool} {t : Nat} (ht : (ops[g]?).bind (·.dst) = some t) (hv : look T t = some (.prim (.bool b'))) (hb : b' = !b) (hd : dstOk dst nt = true) (k : RGo P nt ops l Q rest (acc ++ [⟨⟨dst, op, ty, pos, after, some (g, b)⟩, [t], [], .dead, []⟩]) ⟨putD T dst .dead, S⟩) : RGo P nt ops l Q (⟨dst, op, ty, pos, after, some (g, b)⟩ :: rest) acc ⟨T, S⟩ := RGo.step_ (fun r => Run.sN ht hv hb hd r) k
variable {t t2 : TypeId} {g : Option (Nat × Bool)} {x y z : Operand} {f n : Nat} {ar : Array (Nat × Operand)}
theorem RGo.gQ {op : Op} {g : Nat × Bool} (k : RGo P nt ops l Q (⟨dst, op, ty, pos, after, some g⟩ :: rest) acc st) : RGo P nt ops l Q (⟨dst, op, ty, pos, after, some g⟩ :: rest) acc st := k
end
theorem AWP.loopR {c : Code} {st : St} {β : Type} (inv : β → St) (R : β → Prop) (μ : β → Nat) (b0 : β) (hR : R b0) (h0 : st.Le (inv b0)) (round : ∀ b, R b → AWP ro P nt c (andThen (fun st' => ∃ b', R b' ∧ μ b' < μ b ∧ st'.Le (inv b')) Q) (inv b)) : AWP ro P nt (.loop c) Q st :=
  .loop (β := {b : β // R b}) (fun b => inv b.1) (fun b => μ b.1) ⟨b0, hR⟩ h0 fun b => (round b.1 b.2).mono fun e st' h => by
    cases e with
    | normal => obtain ⟨b', h1, h2, h3⟩ := h; exact ⟨⟨b', h1⟩, h2, h3⟩
    | _ => exact h
theorem andThen_n {K : St → Prop} {Q : Exit → St → Prop} {st : St} (h : K st) : andThen K Q .normal st := h
theorem andThen_r {K : St → Prop} {Q : Exit → St → Prop} {st : St} (h : Q .ret st) : andThen K Q .ret st := h
theorem andThen_e {K : St → Prop} {Q : Exit → St → Prop} {st : St} {i : Nat} (h : Q (.exit i) st) : andThen K Q (.exit i) st := h
theorem inB_n {id : Nat} {Q : Exit → St → Prop} {st : St} (h : Q .normal st) : inB id Q .normal st := h
theorem inB_r {id : Nat} {Q : Exit → St → Prop} {st : St} (h : Q .ret st) : inB id Q .ret st := h
theorem inB_e {id : Nat} {Q : Exit → St → Prop} {st : St} (h : Q .normal st) : inB id Q (.exit id) st := by
  show (match Nat.beq id id with | true => Q .normal st | false => Q (.exit id) st)
  rw [show Nat.beq id id = true from by simp]
  exact h
theorem inB_ne {id i : Nat} {Q : Exit → St → Prop} {st : St} (hi : Nat.beq i id = false) (h : Q (.exit i) st) : inB id Q (.exit i) st := by
  show (match Nat.beq i id with | true => Q .normal st | false => Q (.exit i) st)
  rw [hi]
  exact h
theorem retQ_r {res : List ResultVar} {Sf : List Slot} {Q : AV → List Slot → Prop} {st : St} (h : Ends P res Sf Q st) : retQ P res Sf Q .ret st := h
theorem retQ_n {res : List ResultVar} {Sf : List Slot} {Q : AV → List Slot → Prop} {st : St} (h : Ends P res Sf Q st) : retQ P res Sf Q .normal st := h
theorem Ends.plain {t : Nat} {Sf : List Slot} {Q : AV → List Slot → Prop} {st : St} {a : AV} (h : look st.T t = some a) (ha : ntup a = true) (hS : Sf.Sublist st.S) (hQ : Q a []) : Ends P [.tmp t] Sf Q st :=
  ⟨[a], [a], st.S, [], .cons (.tmp h) ha .nil, .cons (.cell .same) .nil, hS, hQ⟩
theorem map_at {α β : Type} (f : α → β) {l : List α} {i : Nat} (h : i < l.length) : (l.map f)[i]? = some (f l[i]) := by simp [h]
theorem AOps.rs (k : ∀ X, AOps ro P nt ops Q rest ⟨T, (X, .gone) :: S⟩) : AOps ro P nt ops Q rest ⟨T, S⟩ := .reserve k
theorem AWP.rs {c : Code} (k : ∀ X, AWP ro P nt c Q ⟨T, (X, .gone) :: S⟩) : AWP ro P nt c Q ⟨T, S⟩ := .reserve k

variable {c : Option (List Bool)} {x y z : Operand} {t ty2 t' te : TypeId} {g : Option (Nat × Bool)} {i j : Int} {k : IntKind} {p q X Y sz n : Nat} {l ls : List AV} {cs : List AV} {e : AV}
theorem OpT.index_strD {P : Program} {dst : Option Tmp} {x y : Operand} {t ty : TypeId} {pos : String} {after : Array Edge} {g : Option (Nat × Bool)} {k : IntKind} {i : Int} {s : List UInt8} {a : Nat} (ht : P.underlying t = some .string) (hq : i = (a : Int)) (hi : a < s.length) : OpT P ⟨dst, .index t x y, ty, pos, after, g⟩ [(x, .prim (strA s)), (y, .prim (.int k i))] [] (.prim (.int .u8 ((s.getD a 0).toNat : Int))) [] := by
  rw [show s.getD a 0 = s[a] from by simp [hi]]
  exact .index_str ht hq hi
section
variable {P : Program} {dst : Option Tmp} {x y : Operand} {t ty ty2 : TypeId} {pos : String} {after : Array Edge} {g : Option (Nat × Bool)} {k k' : IntKind} {i j : Int} {ats : Array TypeId}
theorem OpT.shl {n : Nat} (hj : j = (n : Int)) (hn : n ≤ k.bits) : OpT P ⟨dst, .binOp .shl t x y ty2, ty, pos, after, g⟩ [(x, .prim (.int k i)), (y, .prim (.int k' j))] [] (.prim (.int k (k.wrap (i * 2 ^ n)))) [] :=
  run_binOp rfl (fun w => by
    subst hj
    have h : ¬ ((n : Int) < 0) := by omega
    simp [binOp, Op.shift, h, Sem.run_pure, Nat.min_eq_left hn]) (.inl ⟨by simp, by simp⟩)
theorem OpT.min2 : OpT P ⟨dst, .call ⟨.builtin .min, #[x, y], ats⟩, ty, pos, after, g⟩ [(x, .prim (.int k i)), (y, .prim (.int k j))] [] (.prim (.int k (if j < i then j else i))) [] :=
  .pure_ fun m a hx _ => by
    have h1 := (hx (x, .prim (.int k i)) (by simp)).prim
    have h2 := (hx (y, .prim (.int k j)) (by simp)).prim
    simp only at h1 h2
    refine ⟨_, ?_, vv_prim _⟩
    rw [run_builtin]
    simp [builtin, Builtin.min_, Builtin.min2, h1, h2, Sem.run_bind, Sem.run_pure, Result.andThen_ok]
theorem OpT.max2 : OpT P ⟨dst, .call ⟨.builtin .max, #[x, y], ats⟩, ty, pos, after, g⟩ [(x, .prim (.int k i)), (y, .prim (.int k j))] [] (.prim (.int k (if i < j then j else i))) [] :=
  .pure_ fun m a hx _ => by
    have h1 := (hx (x, .prim (.int k i)) (by simp)).prim
    have h2 := (hx (y, .prim (.int k j)) (by simp)).prim
    simp only at h1 h2
    refine ⟨_, ?_, vv_prim _⟩
    rw [run_builtin]
    simp [builtin, Builtin.max_, Builtin.max2, h1, h2, Sem.run_bind, Sem.run_pure, Result.andThen_ok]
end
namespace W
theorem move (hx : Rd c T x (v)) : Stp c P ⟨dst, .move x, ty, pos, after, g⟩ T S [(x, v)] [] (v) [] := ⟨.move, (.cons hx .nil), .nil⟩
theorem assign (hx : Rd c T x (v)) : Stp c P ⟨dst, .assign x, ty, pos, after, g⟩ T S [(x, v)] [] (v) [] := ⟨.assign, (.cons hx .nil), .nil⟩
theorem lss (hx : Rd c T x (.prim (.int k i))) (hy : Rd c T y (.prim (.int k j))) : Stp c P ⟨dst, .binOp .lss t x y ty2, ty, pos, after, g⟩ T S [(x, .prim (.int k i)), (y, .prim (.int k j))] [] (.prim (.bool (decide (i < j)))) [] := ⟨.lss, (.cons hx (.cons hy .nil)), .nil⟩
theorem leq (hx : Rd c T x (.prim (.int k i))) (hy : Rd c T y (.prim (.int k j))) : Stp c P ⟨dst, .binOp .leq t x y ty2, ty, pos, after, g⟩ T S [(x, .prim (.int k i)), (y, .prim (.int k j))] [] (.prim (.bool (decide (i ≤ j)))) [] := ⟨.leq, (.cons hx (.cons hy .nil)), .nil⟩
theorem gtr (hx : Rd c T x (.prim (.int k i))) (hy : Rd c T y (.prim (.int k j))) : Stp c P ⟨dst, .binOp .gtr t x y ty2, ty, pos, after, g⟩ T S [(x, .prim (.int k i)), (y, .prim (.int k j))] [] (.prim (.bool (decide (j < i)))) [] := ⟨.gtr, (.cons hx (.cons hy .nil)), .nil⟩
theorem geq (hx : Rd c T x (.prim (.int k i))) (hy : Rd c T y (.prim (.int k j))) : Stp c P ⟨dst, .binOp .geq t x y ty2, ty, pos, after, g⟩ T S [(x, .prim (.int k i)), (y, .prim (.int k j))] [] (.prim (.bool (decide (j ≤ i)))) [] := ⟨.geq, (.cons hx (.cons hy .nil)), .nil⟩
theorem eqI (hx : Rd c T x (.prim (.int k i))) (hy : Rd c T y (.prim (.int k j))) : Stp c P ⟨dst, .binOp .eql t x y ty2, ty, pos, after, g⟩ T S [(x, .prim (.int k i)), (y, .prim (.int k j))] [] (.prim (.bool (decide (i = j)))) [] := ⟨.eql_int, (.cons hx (.cons hy .nil)), .nil⟩
theorem neI (hx : Rd c T x (.prim (.int k i))) (hy : Rd c T y (.prim (.int k j))) : Stp c P ⟨dst, .binOp .neq t x y ty2, ty, pos, after, g⟩ T S [(x, .prim (.int k i)), (y, .prim (.int k j))] [] (.prim (.bool (decide (i ≠ j)))) [] := ⟨.neq_int, (.cons hx (.cons hy .nil)), .nil⟩
theorem eqS {a b : List UInt8} (hx : Rd c T x (.prim (strA a))) (hy : Rd c T y (.prim (strA b))) : Stp c P ⟨dst, .binOp .eql t x y ty2, ty, pos, after, g⟩ T S [(x, .prim (strA a)), (y, .prim (strA b))] [] (.prim (.bool (decide (a = b)))) [] := ⟨.eql_str, (.cons hx (.cons hy .nil)), .nil⟩
theorem neS {a b : List UInt8} (hx : Rd c T x (.prim (strA a))) (hy : Rd c T y (.prim (strA b))) : Stp c P ⟨dst, .binOp .neq t x y ty2, ty, pos, after, g⟩ T S [(x, .prim (strA a)), (y, .prim (strA b))] [] (.prim (.bool (decide (a ≠ b)))) [] := ⟨.neq_str, (.cons hx (.cons hy .nil)), .nil⟩
theorem add (hx : Rd c T x (.prim (.int .i64 i))) (hy : Rd c T y (.prim (.int .i64 j))) (h : -9223372036854775808 ≤ i + j ∧ i + j ≤ 9223372036854775807) : Stp c P ⟨dst, .binOp .add t x y ty2, ty, pos, after, g⟩ T S [(x, .prim (.int .i64 i)), (y, .prim (.int .i64 j))] [] (.prim (.int .i64 (i + j))) [] := ⟨.add h.1 h.2, (.cons hx (.cons hy .nil)), .nil⟩
theorem sub (hx : Rd c T x (.prim (.int .i64 i))) (hy : Rd c T y (.prim (.int .i64 j))) (h : -9223372036854775808 ≤ i - j ∧ i - j ≤ 9223372036854775807) : Stp c P ⟨dst, .binOp .sub t x y ty2, ty, pos, after, g⟩ T S [(x, .prim (.int .i64 i)), (y, .prim (.int .i64 j))] [] (.prim (.int .i64 (i - j))) [] := ⟨.sub h.1 h.2, (.cons hx (.cons hy .nil)), .nil⟩
theorem mul (hx : Rd c T x (.prim (.int .i64 i))) (hy : Rd c T y (.prim (.int .i64 j))) (h : -9223372036854775808 ≤ i * j ∧ i * j ≤ 9223372036854775807) : Stp c P ⟨dst, .binOp .mul t x y ty2, ty, pos, after, g⟩ T S [(x, .prim (.int .i64 i)), (y, .prim (.int .i64 j))] [] (.prim (.int .i64 (i * j))) [] := ⟨.mul h.1 h.2, (.cons hx (.cons hy .nil)), .nil⟩
theorem rem (hx : Rd c T x (.prim (.int k i))) (hy : Rd c T y (.prim (.int k j))) (h : j ≠ 0) : Stp c P ⟨dst, .binOp .rem t x y ty2, ty, pos, after, g⟩ T S [(x, .prim (.int k i)), (y, .prim (.int k j))] [] (.prim (.int k (i.tmod j))) [] := ⟨.rem h, (.cons hx (.cons hy .nil)), .nil⟩
theorem quoW (hx : Rd c T x (.prim (.int k i))) (hy : Rd c T y (.prim (.int k j))) (h : j ≠ 0) : Stp c P ⟨dst, .binOp .quo t x y ty2, ty, pos, after, g⟩ T S [(x, .prim (.int k i)), (y, .prim (.int k j))] [] (.prim (.int k (k.wrap (i.tdiv j)))) [] := ⟨.quo h, (.cons hx (.cons hy .nil)), .nil⟩
theorem shl {m : Nat} {k' : IntKind} (hx : Rd c T x (.prim (.int k i))) (hy : Rd c T y (.prim (.int k' j))) (hj : j = (m : Int)) (hm : m ≤ k.bits) : Stp c P ⟨dst, .binOp .shl t x y ty2, ty, pos, after, g⟩ T S [(x, .prim (.int k i)), (y, .prim (.int k' j))] [] (.prim (.int k (k.wrap (i * 2 ^ m)))) [] := ⟨.shl hj hm, (.cons hx (.cons hy .nil)), .nil⟩
theorem min2 {ats : Array TypeId} (hx : Rd c T x (.prim (.int k i))) (hy : Rd c T y (.prim (.int k j))) : Stp c P ⟨dst, .call ⟨.builtin .min, #[x, y], ats⟩, ty, pos, after, g⟩ T S [(x, .prim (.int k i)), (y, .prim (.int k j))] [] (.prim (.int k (if j < i then j else i))) [] := ⟨.min2, (.cons hx (.cons hy .nil)), .nil⟩
theorem max2 {ats : Array TypeId} (hx : Rd c T x (.prim (.int k i))) (hy : Rd c T y (.prim (.int k j))) : Stp c P ⟨dst, .call ⟨.builtin .max, #[x, y], ats⟩, ty, pos, after, g⟩ T S [(x, .prim (.int k i)), (y, .prim (.int k j))] [] (.prim (.int k (if i < j then j else i))) [] := ⟨.max2, (.cons hx (.cons hy .nil)), .nil⟩
theorem not {b : Bool} (hx : Rd c T x (.prim (.bool b))) : Stp c P ⟨dst, .unOp .not t x, ty, pos, after, g⟩ T S [(x, .prim (.bool b))] [] (.prim (.bool !b)) [] := ⟨.not, (.cons hx .nil), .nil⟩
theorem negW (hx : Rd c T x (.prim (.int k i))) : Stp c P ⟨dst, .unOp .neg t x, ty, pos, after, g⟩ T S [(x, .prim (.int k i))] [] (.prim (.int k (k.wrap (-i)))) [] := ⟨.neg, (.cons hx .nil), .nil⟩
theorem pick {b : Bool} {va vb : AV} (hx : Rd c T x (.prim (.bool b))) (hy : Rd c T y (va)) (hz : Rd c T z (vb)) : Stp c P ⟨dst, .pick x y z, ty, pos, after, g⟩ T S [(x, .prim (.bool b)), (y, va), (z, vb)] [] (bsel b va vb) [] := ⟨.pick, (.cons hx (.cons hy (.cons hz .nil))), .nil⟩
theorem pickP {b : Bool} {u1 u2 : Value} (hx : Rd c T x (.prim (.bool b))) (hy : Rd c T y (.prim u1)) (hz : Rd c T z (.prim u2)) : Stp c P ⟨dst, .pick x y z, ty, pos, after, g⟩ T S [(x, .prim (.bool b)), (y, .prim u1), (z, .prim u2)] [] (.prim (if b then u1 else u2)) [] := ⟨.pick_prim, (.cons hx (.cons hy (.cons hz .nil))), .nil⟩
theorem orQ {b d : Bool} (hx : Rd c T x (.prim (.bool b))) (hy : Rd c T y (.prim (.bool true))) (hz : Rd c T z (.opt (b == false) (.prim (.bool d)))) : Stp c P ⟨dst, .pick x y z, ty, pos, after, g⟩ T S [(x, .prim (.bool b)), (y, .prim (.bool true)), (z, .opt (b == false) (.prim (.bool d)))] [] (.prim (.bool (b || d))) [] := ⟨.or_opt, (.cons hx (.cons hy (.cons hz .nil))), .nil⟩
theorem andQ {b d : Bool} (hx : Rd c T x (.prim (.bool b))) (hy : Rd c T y (.opt (b == true) (.prim (.bool d)))) (hz : Rd c T z (.prim (.bool false))) : Stp c P ⟨dst, .pick x y z, ty, pos, after, g⟩ T S [(x, .prim (.bool b)), (y, .opt (b == true) (.prim (.bool d))), (z, .prim (.bool false))] [] (.prim (.bool (b && d))) [] := ⟨.and_opt, (.cons hx (.cons hy (.cons hz .nil))), .nil⟩
theorem extract {as : List AV} {m : Nat} (hx : Rd c T x (.tup as)) (h : as[m]? = some v) : Stp c P ⟨dst, .extract x m, ty, pos, after, g⟩ T S [(x, .tup as)] [] (v) [] := ⟨.extract h, (.cons hx .nil), .nil⟩
theorem loadF {ag : Bool} [TAg P t ag] [TSize P t n] (hx : Rd c T x (.fp cs)) (h : partOf cs 0 n ag = some v) : Stp c P ⟨dst, .load t x, ty, pos, after, g⟩ T S [(x, .fp cs)] [] (v) [] := ⟨.load_fp TAg.h TSize.h h, (.cons hx .nil), .nil⟩
theorem load {ag : Bool} {a b : Nat} [TAg P t ag] [TSize P t n] (hx : Rd c T x (.ptr X a b)) (hSp : At S p (X, .row t' sz l)) (hi : l[a]? = some e) (h : partOf e.cells b n ag = some v) : Stp c P ⟨dst, .load t x, ty, pos, after, g⟩ T S [(x, .ptr X a b)] [(p, (X, .row t' sz l))] (v) [] := ⟨.load TAg.h TSize.h hi h, (.cons hx .nil), (.cons hSp .nil)⟩
theorem store {a b : Nat} [TSize P t n] (hx : Rd c T x (.ptr X a b)) (hy : Rd c T y (v)) (hSp : At S p (X, .row t' sz l)) (hi : l[a]? = some e) (h : putOk e b n v = true) : Stp c P ⟨dst, .store t x y, ty, pos, after, g⟩ T S [(x, .ptr X a b), (y, v)] [(p, (X, .row t' sz l))] (.dead) [(p, (X, .row t' sz (l.set a (putPart e b v))))] := ⟨.store TSize.h hi h, (.cons hx (.cons hy .nil)), (.cons hSp .nil)⟩
theorem fieldF {f off : Nat} {ft : TypeId} [TFl P t f off ft] [TSize P ft (n + 1)] (hx : Rd c T x (.fp cs)) (h : flat cs = true) : Stp c P ⟨dst, .fieldAddr t x f, ty, pos, after, g⟩ T S [(x, .fp cs)] [] (.fp (cs.drop off)) [] := ⟨.fieldAddr_fp TFl.h TSize.h h, (.cons hx .nil), .nil⟩
theorem fieldA {f off a b : Nat} {ft : TypeId} [TFl P t f off ft] [TSize P ft (n + 1)] (hx : Rd c T x (.ptr X a b)) (hSp : At S p (X, .row t' sz l)) (hi : a < l.length) : Stp c P ⟨dst, .fieldAddr t x f, ty, pos, after, g⟩ T S [(x, .ptr X a b)] [(p, (X, .row t' sz l))] (.ptr X a (b + off)) [] := ⟨.fieldAddr TFl.h TSize.h hi, (.cons hx .nil), (.cons hSp .nil)⟩
theorem field {f off : Nat} {ft : TypeId} {ag : Bool} [TFl P t f off ft] [TAg P ft ag] [TSize P ft n] (hx : Rd c T x (.agg cs)) (h : partOf cs off n ag = some v) : Stp c P ⟨dst, .field t x f, ty, pos, after, g⟩ T S [(x, .agg cs)] [] (v) [] := ⟨.field TFl.h TAg.h TSize.h h, (.cons hx .nil), .nil⟩
theorem idx {off m a b : Nat} [TEl P t te] [TSize P te sz] (hx : Rd c T x (.sl X off m)) (hy : Rd c T y (.prim (.int k i))) (hSp : At S p (X, .row t' sz l)) (hq : i = (a : Int)) (ha : a < m) (hb : off + a = b) : Stp c P ⟨dst, .indexAddr t x y, ty, pos, after, g⟩ T S [(x, .sl X off m), (y, .prim (.int k i))] [(p, (X, .row t' sz l))] (.ptr X b 0) [] := ⟨.indexAddr TEl.h TSize.h hq ha hb, (.cons hx (.cons hy .nil)), (.cons hSp .nil)⟩
theorem idxL {a : Nat} [TEl P t te] [TSize P te sz] (hx : Rd c T x (.lst false t' sz l)) (hy : Rd c T y (.prim (.int k i))) (hq : i = (a : Int)) (hi : l[a]? = some e) : Stp c P ⟨dst, .indexAddr t x y, ty, pos, after, g⟩ T S [(x, .lst false t' sz l), (y, .prim (.int k i))] [] (.fp e.cells) [] := ⟨.indexAddr_lst TEl.h TSize.h hq hi, (.cons hx (.cons hy .nil)), .nil⟩
theorem lenS {off m : Nat} [TEl P t te] (hx : Rd c T x (.sl X off m)) : Stp c P ⟨dst, .call ⟨.builtin .len, #[x], #[t]⟩, ty, pos, after, g⟩ T S [(x, .sl X off m)] [] (.prim (.int .i64 (m : Int))) [] := ⟨.len_sl TEl.h, (.cons hx .nil), .nil⟩
theorem lenL [TEl P t te] (hx : Rd c T x (.lst false t' sz l)) : Stp c P ⟨dst, .call ⟨.builtin .len, #[x], #[t]⟩, ty, pos, after, g⟩ T S [(x, .lst false t' sz l)] [] (.prim (.int .i64 (l.length : Int))) [] := ⟨.len_lst (o := false) TEl.h, (.cons hx .nil), .nil⟩
theorem lenN [TEl P t te] (hx : Rd c T x (.prim (.slice none 0 0))) : Stp c P ⟨dst, .call ⟨.builtin .len, #[x], #[t]⟩, ty, pos, after, g⟩ T S [(x, .prim (.slice none 0 0))] [] (.prim (.int .i64 0)) [] := ⟨.len_nil TEl.h, (.cons hx .nil), .nil⟩
theorem lenStr {s : List UInt8} [TSg P t] (hx : Rd c T x (.prim (strA s))) : Stp c P ⟨dst, .call ⟨.builtin .len, #[x], #[t]⟩, ty, pos, after, g⟩ T S [(x, .prim (strA s))] [] (.prim (.int .i64 (s.length : Int))) [] := ⟨.len_str TSg.h, (.cons hx .nil), .nil⟩
theorem idxStr {s : List UInt8} {a : Nat} [TSg P t] (hx : Rd c T x (.prim (strA s))) (hy : Rd c T y (.prim (.int k i))) (hq : i = (a : Int)) (hi : a < s.length) : Stp c P ⟨dst, .index t x y, ty, pos, after, g⟩ T S [(x, .prim (strA s)), (y, .prim (.int k i))] [] (.prim (.int .u8 ((s.getD a 0).toNat : Int))) [] := ⟨.index_strD TSg.h hq hi, (.cons hx (.cons hy .nil)), .nil⟩
theorem nilF (hx : Rd c T x (.fp cs)) : Stp c P ⟨dst, .nilCheck x, ty, pos, after, g⟩ T S [(x, .fp cs)] [] (.fp cs) [] := ⟨.nilCheck_fp, (.cons hx .nil), .nil⟩
theorem nilA {a b : Nat} (hx : Rd c T x (.ptr X a b)) (hSp : At S p (X, .row t' sz l)) (hi : a < l.length) : Stp c P ⟨dst, .nilCheck x, ty, pos, after, g⟩ T S [(x, .ptr X a b)] [(p, (X, .row t' sz l))] (.ptr X a b) [] := ⟨.nilCheck hi, (.cons hx .nil), (.cons hSp .nil)⟩
theorem hiL {a : Nat} [TEl P t te] [TSize P te sz] (hx : Rd c T x (.lst false t' sz l)) (hy : Rd c T y (.prim (.int k i))) (hq : i = (a : Int)) (ha : a ≤ l.length) : Stp c P ⟨dst, .slice t x none (some y) none, ty, pos, after, g⟩ T S [(x, .lst false t' sz l), (y, .prim (.int k i))] [] (.lst false t' sz (l.take a)) [] := ⟨.slice_lst_hi TEl.h TSize.h hq ha, (.cons hx (.cons hy .nil)), .nil⟩
theorem loL {a : Nat} [TEl P t te] [TSize P te sz] (hx : Rd c T x (.lst false t' sz l)) (hy : Rd c T y (.prim (.int k i))) (hq : i = (a : Int)) (ha : a ≤ l.length) : Stp c P ⟨dst, .slice t x (some y) none none, ty, pos, after, g⟩ T S [(x, .lst false t' sz l), (y, .prim (.int k i))] [] (.lst false t' sz (l.drop a)) [] := ⟨.slice_lst_lo TEl.h TSize.h hq ha, (.cons hx (.cons hy .nil)), .nil⟩
theorem box (hx : Rd c T x (v)) (hSp : At S p (X, .gone)) (hs : v.stor = true) : Stp c P ⟨dst, .box t x, ty, pos, after, g⟩ T S [(x, v)] [(p, (X, .gone))] (.ptr X 0 0) [(p, (X, .row t v.width [v]))] := ⟨.box hs, (.cons hx .nil), (.cons hSp .nil)⟩
theorem alloc {zl : List Value} {ag : Bool} [TZe P t zl] [TAg P t ag] (hSp : At S p (X, .gone)) (h : ag = true ∨ zl.length = 1) : Stp c P ⟨dst, .alloc t, ty, pos, after, g⟩ T S [] [(p, (X, .gone))] (.ptr X 0 0) [(p, (X, .row t zl.length [zAV zl ag]))] := ⟨.alloc TZe.h h, .nil, (.cons hSp .nil)⟩
theorem app {m by_ : Nat} [TRo P t te sz by_] (hx : Rd c T x (.sl X 0 m)) (hy : Rd c T y (.lst false t' sz ls)) (hSq : At S q (Y, .gone)) (hSp : At S p (X, .row te sz l)) (hn : m = l.length) (hb : (l.length + ls.length) * by_ ≤ 140737488355328) (hm : l.length + ls.length ≤ maxLen) (hqp : q ≠ p) : Stp c P ⟨dst, .call ⟨.builtin .append, #[x, y], #[t, t]⟩, ty, pos, after, g⟩ T S [(x, .sl X 0 m), (y, .lst false t' sz ls)] [(q, (Y, .gone)), (p, (X, .row te sz l))] (.sl Y 0 (m + ls.length)) [(q, (X, .used)), (p, (Y, .row te sz (l ++ ls)))] := ⟨.append_lst TRo.h hn hb hm hqp, (.cons hx (.cons hy .nil)), (.cons hSq (.cons hSp .nil))⟩
theorem make {k' : IntKind} {zl : List Value} {ag : Bool} {m d by_ : Nat} [TEl P t te] [TZe P te zl] [TSize P te sz] [TAg P te ag] [TBy P te by_] (hx : Rd c T x (.prim (.int k i))) (hy : Rd c T y (.prim (.int k' j))) (hSp : At S p (X, .gone)) (hzs : zl.length = sz) (hag : ag = true ∨ zl.length = 1) (hq : i = (m : Int)) (hq' : j = (d : Int)) (hnc : m ≤ d) (hb : by_ * d ≤ 281474976710656) (hc : d ≤ maxLen) : Stp c P ⟨dst, .makeSlice t x y, ty, pos, after, g⟩ T S [(x, .prim (.int k i)), (y, .prim (.int k' j))] [(p, (X, .gone))] (.sl X 0 m) [(p, (X, .row te sz (List.replicate m (zAV zl ag))))] := ⟨.makeSlice TEl.h TZe.h TSize.h hzs hag TBy.h hq hq' hnc hb hc, (.cons hx (.cons hy .nil)), (.cons hSp .nil)⟩
theorem call0  {f : FuncId} {ats : Array TypeId} {r : AV}  (h : PS P f [] r) (ht : noTup [] = true) : Stp c P ⟨dst, .call ⟨.value (.func f), #[], ats⟩, ty, pos, after, g⟩ T S [] [] r.frz [] := ⟨.call (xs := []) h ht, .nil, .nil⟩
theorem callF0  {f : FuncId} {ats : Array TypeId} {r r' : AV}  (h : PS P f [] r) (ht : noTup [] = true) (hf : r.frz = r') : Stp c P ⟨dst, .call ⟨.value (.func f), #[], ats⟩, ty, pos, after, g⟩ T S [] [] r' [] := hf ▸ call0 h ht
theorem build0  {zl : List Value} {pl : List (Nat × Nat)} [TSt P t zl pl]  (hf : fillA pl (zl.map .prim) [] = some cs) : Stp c P ⟨dst, .build t #[], ty, pos, after, g⟩ T S [] [] (.agg cs) [] := ⟨.build (ps := []) TSt.h hf, .nil, .nil⟩
theorem call1 {x0 : Operand} {v0 : AV} {f : FuncId} {ats : Array TypeId} {r : AV} (h0 : Rd c T x0 v0) (h : PS P f [v0] r) (ht : noTup [(x0, v0)] = true) : Stp c P ⟨dst, .call ⟨.value (.func f), #[x0], ats⟩, ty, pos, after, g⟩ T S [(x0, v0)] [] r.frz [] := ⟨.call (xs := [(x0, v0)]) h ht, (.cons h0 .nil), .nil⟩
theorem callF1 {x0 : Operand} {v0 : AV} {f : FuncId} {ats : Array TypeId} {r r' : AV} (h0 : Rd c T x0 v0) (h : PS P f [v0] r) (ht : noTup [(x0, v0)] = true) (hf : r.frz = r') : Stp c P ⟨dst, .call ⟨.value (.func f), #[x0], ats⟩, ty, pos, after, g⟩ T S [(x0, v0)] [] r' [] := hf ▸ call1 h0 h ht
theorem build1 {x0 : Operand} {v0 : AV} {j0 : Nat} {zl : List Value} {pl : List (Nat × Nat)} [TSt P t zl pl] (h0 : Rd c T x0 v0) (hf : fillA pl (zl.map .prim) [(j0, v0)] = some cs) : Stp c P ⟨dst, .build t #[(j0, x0)], ty, pos, after, g⟩ T S [(x0, v0)] [] (.agg cs) [] := ⟨.build (ps := [(j0, x0, v0)]) TSt.h hf, (.cons h0 .nil), .nil⟩
theorem func1 {x0 : Operand} {v0 : AV} {f : FuncId} (h0 : Rd c T x0 v0) (hs : st1s [v0] = true) : Stp c P ⟨dst, .makeFunc (.func f) #[] #[x0], ty, pos, after, g⟩ T S [(x0, v0)] [] (.fn f [v0]) [] := ⟨.makeFunc (xs := [(x0, v0)]) hs, (.cons h0 .nil), .nil⟩
theorem call2 {x0 x1 : Operand} {v0 v1 : AV} {f : FuncId} {ats : Array TypeId} {r : AV} (h0 : Rd c T x0 v0) (h1 : Rd c T x1 v1) (h : PS P f [v0, v1] r) (ht : noTup [(x0, v0), (x1, v1)] = true) : Stp c P ⟨dst, .call ⟨.value (.func f), #[x0, x1], ats⟩, ty, pos, after, g⟩ T S [(x0, v0), (x1, v1)] [] r.frz [] := ⟨.call (xs := [(x0, v0), (x1, v1)]) h ht, (.cons h0 (.cons h1 .nil)), .nil⟩
theorem callF2 {x0 x1 : Operand} {v0 v1 : AV} {f : FuncId} {ats : Array TypeId} {r r' : AV} (h0 : Rd c T x0 v0) (h1 : Rd c T x1 v1) (h : PS P f [v0, v1] r) (ht : noTup [(x0, v0), (x1, v1)] = true) (hf : r.frz = r') : Stp c P ⟨dst, .call ⟨.value (.func f), #[x0, x1], ats⟩, ty, pos, after, g⟩ T S [(x0, v0), (x1, v1)] [] r' [] := hf ▸ call2 h0 h1 h ht
theorem build2 {x0 x1 : Operand} {v0 v1 : AV} {j0 j1 : Nat} {zl : List Value} {pl : List (Nat × Nat)} [TSt P t zl pl] (h0 : Rd c T x0 v0) (h1 : Rd c T x1 v1) (hf : fillA pl (zl.map .prim) [(j0, v0), (j1, v1)] = some cs) : Stp c P ⟨dst, .build t #[(j0, x0), (j1, x1)], ty, pos, after, g⟩ T S [(x0, v0), (x1, v1)] [] (.agg cs) [] := ⟨.build (ps := [(j0, x0, v0), (j1, x1, v1)]) TSt.h hf, (.cons h0 (.cons h1 .nil)), .nil⟩
theorem func2 {x0 x1 : Operand} {v0 v1 : AV} {f : FuncId} (h0 : Rd c T x0 v0) (h1 : Rd c T x1 v1) (hs : st1s [v0, v1] = true) : Stp c P ⟨dst, .makeFunc (.func f) #[] #[x0, x1], ty, pos, after, g⟩ T S [(x0, v0), (x1, v1)] [] (.fn f [v0, v1]) [] := ⟨.makeFunc (xs := [(x0, v0), (x1, v1)]) hs, (.cons h0 (.cons h1 .nil)), .nil⟩
theorem call3 {x0 x1 x2 : Operand} {v0 v1 v2 : AV} {f : FuncId} {ats : Array TypeId} {r : AV} (h0 : Rd c T x0 v0) (h1 : Rd c T x1 v1) (h2 : Rd c T x2 v2) (h : PS P f [v0, v1, v2] r) (ht : noTup [(x0, v0), (x1, v1), (x2, v2)] = true) : Stp c P ⟨dst, .call ⟨.value (.func f), #[x0, x1, x2], ats⟩, ty, pos, after, g⟩ T S [(x0, v0), (x1, v1), (x2, v2)] [] r.frz [] := ⟨.call (xs := [(x0, v0), (x1, v1), (x2, v2)]) h ht, (.cons h0 (.cons h1 (.cons h2 .nil))), .nil⟩
theorem callF3 {x0 x1 x2 : Operand} {v0 v1 v2 : AV} {f : FuncId} {ats : Array TypeId} {r r' : AV} (h0 : Rd c T x0 v0) (h1 : Rd c T x1 v1) (h2 : Rd c T x2 v2) (h : PS P f [v0, v1, v2] r) (ht : noTup [(x0, v0), (x1, v1), (x2, v2)] = true) (hf : r.frz = r') : Stp c P ⟨dst, .call ⟨.value (.func f), #[x0, x1, x2], ats⟩, ty, pos, after, g⟩ T S [(x0, v0), (x1, v1), (x2, v2)] [] r' [] := hf ▸ call3 h0 h1 h2 h ht
theorem build3 {x0 x1 x2 : Operand} {v0 v1 v2 : AV} {j0 j1 j2 : Nat} {zl : List Value} {pl : List (Nat × Nat)} [TSt P t zl pl] (h0 : Rd c T x0 v0) (h1 : Rd c T x1 v1) (h2 : Rd c T x2 v2) (hf : fillA pl (zl.map .prim) [(j0, v0), (j1, v1), (j2, v2)] = some cs) : Stp c P ⟨dst, .build t #[(j0, x0), (j1, x1), (j2, x2)], ty, pos, after, g⟩ T S [(x0, v0), (x1, v1), (x2, v2)] [] (.agg cs) [] := ⟨.build (ps := [(j0, x0, v0), (j1, x1, v1), (j2, x2, v2)]) TSt.h hf, (.cons h0 (.cons h1 (.cons h2 .nil))), .nil⟩
theorem func3 {x0 x1 x2 : Operand} {v0 v1 v2 : AV} {f : FuncId} (h0 : Rd c T x0 v0) (h1 : Rd c T x1 v1) (h2 : Rd c T x2 v2) (hs : st1s [v0, v1, v2] = true) : Stp c P ⟨dst, .makeFunc (.func f) #[] #[x0, x1, x2], ty, pos, after, g⟩ T S [(x0, v0), (x1, v1), (x2, v2)] [] (.fn f [v0, v1, v2]) [] := ⟨.makeFunc (xs := [(x0, v0), (x1, v1), (x2, v2)]) hs, (.cons h0 (.cons h1 (.cons h2 .nil))), .nil⟩
theorem build4 {x0 x1 x2 x3 : Operand} {v0 v1 v2 v3 : AV} {j0 j1 j2 j3 : Nat} {zl : List Value} {pl : List (Nat × Nat)} [TSt P t zl pl] (h0 : Rd c T x0 v0) (h1 : Rd c T x1 v1) (h2 : Rd c T x2 v2) (h3 : Rd c T x3 v3) (hf : fillA pl (zl.map .prim) [(j0, v0), (j1, v1), (j2, v2), (j3, v3)] = some cs) : Stp c P ⟨dst, .build t #[(j0, x0), (j1, x1), (j2, x2), (j3, x3)], ty, pos, after, g⟩ T S [(x0, v0), (x1, v1), (x2, v2), (x3, v3)] [] (.agg cs) [] := ⟨.build (ps := [(j0, x0, v0), (j1, x1, v1), (j2, x2, v2), (j3, x3, v3)]) TSt.h hf, (.cons h0 (.cons h1 (.cons h2 (.cons h3 .nil)))), .nil⟩
theorem func4 {x0 x1 x2 x3 : Operand} {v0 v1 v2 v3 : AV} {f : FuncId} (h0 : Rd c T x0 v0) (h1 : Rd c T x1 v1) (h2 : Rd c T x2 v2) (h3 : Rd c T x3 v3) (hs : st1s [v0, v1, v2, v3] = true) : Stp c P ⟨dst, .makeFunc (.func f) #[] #[x0, x1, x2, x3], ty, pos, after, g⟩ T S [(x0, v0), (x1, v1), (x2, v2), (x3, v3)] [] (.fn f [v0, v1, v2, v3]) [] := ⟨.makeFunc (xs := [(x0, v0), (x1, v1), (x2, v2), (x3, v3)]) hs, (.cons h0 (.cons h1 (.cons h2 (.cons h3 .nil)))), .nil⟩
theorem build5 {x0 x1 x2 x3 x4 : Operand} {v0 v1 v2 v3 v4 : AV} {j0 j1 j2 j3 j4 : Nat} {zl : List Value} {pl : List (Nat × Nat)} [TSt P t zl pl] (h0 : Rd c T x0 v0) (h1 : Rd c T x1 v1) (h2 : Rd c T x2 v2) (h3 : Rd c T x3 v3) (h4 : Rd c T x4 v4) (hf : fillA pl (zl.map .prim) [(j0, v0), (j1, v1), (j2, v2), (j3, v3), (j4, v4)] = some cs) : Stp c P ⟨dst, .build t #[(j0, x0), (j1, x1), (j2, x2), (j3, x3), (j4, x4)], ty, pos, after, g⟩ T S [(x0, v0), (x1, v1), (x2, v2), (x3, v3), (x4, v4)] [] (.agg cs) [] := ⟨.build (ps := [(j0, x0, v0), (j1, x1, v1), (j2, x2, v2), (j3, x3, v3), (j4, x4, v4)]) TSt.h hf, (.cons h0 (.cons h1 (.cons h2 (.cons h3 (.cons h4 .nil))))), .nil⟩
theorem func5 {x0 x1 x2 x3 x4 : Operand} {v0 v1 v2 v3 v4 : AV} {f : FuncId} (h0 : Rd c T x0 v0) (h1 : Rd c T x1 v1) (h2 : Rd c T x2 v2) (h3 : Rd c T x3 v3) (h4 : Rd c T x4 v4) (hs : st1s [v0, v1, v2, v3, v4] = true) : Stp c P ⟨dst, .makeFunc (.func f) #[] #[x0, x1, x2, x3, x4], ty, pos, after, g⟩ T S [(x0, v0), (x1, v1), (x2, v2), (x3, v3), (x4, v4)] [] (.fn f [v0, v1, v2, v3, v4]) [] := ⟨.makeFunc (xs := [(x0, v0), (x1, v1), (x2, v2), (x3, v3), (x4, v4)]) hs, (.cons h0 (.cons h1 (.cons h2 (.cons h3 (.cons h4 .nil))))), .nil⟩
theorem build6 {x0 x1 x2 x3 x4 x5 : Operand} {v0 v1 v2 v3 v4 v5 : AV} {j0 j1 j2 j3 j4 j5 : Nat} {zl : List Value} {pl : List (Nat × Nat)} [TSt P t zl pl] (h0 : Rd c T x0 v0) (h1 : Rd c T x1 v1) (h2 : Rd c T x2 v2) (h3 : Rd c T x3 v3) (h4 : Rd c T x4 v4) (h5 : Rd c T x5 v5) (hf : fillA pl (zl.map .prim) [(j0, v0), (j1, v1), (j2, v2), (j3, v3), (j4, v4), (j5, v5)] = some cs) : Stp c P ⟨dst, .build t #[(j0, x0), (j1, x1), (j2, x2), (j3, x3), (j4, x4), (j5, x5)], ty, pos, after, g⟩ T S [(x0, v0), (x1, v1), (x2, v2), (x3, v3), (x4, v4), (x5, v5)] [] (.agg cs) [] := ⟨.build (ps := [(j0, x0, v0), (j1, x1, v1), (j2, x2, v2), (j3, x3, v3), (j4, x4, v4), (j5, x5, v5)]) TSt.h hf, (.cons h0 (.cons h1 (.cons h2 (.cons h3 (.cons h4 (.cons h5 .nil)))))), .nil⟩
theorem func6 {x0 x1 x2 x3 x4 x5 : Operand} {v0 v1 v2 v3 v4 v5 : AV} {f : FuncId} (h0 : Rd c T x0 v0) (h1 : Rd c T x1 v1) (h2 : Rd c T x2 v2) (h3 : Rd c T x3 v3) (h4 : Rd c T x4 v4) (h5 : Rd c T x5 v5) (hs : st1s [v0, v1, v2, v3, v4, v5] = true) : Stp c P ⟨dst, .makeFunc (.func f) #[] #[x0, x1, x2, x3, x4, x5], ty, pos, after, g⟩ T S [(x0, v0), (x1, v1), (x2, v2), (x3, v3), (x4, v4), (x5, v5)] [] (.fn f [v0, v1, v2, v3, v4, v5]) [] := ⟨.makeFunc (xs := [(x0, v0), (x1, v1), (x2, v2), (x3, v3), (x4, v4), (x5, v5)]) hs, (.cons h0 (.cons h1 (.cons h2 (.cons h3 (.cons h4 (.cons h5 .nil)))))), .nil⟩
theorem build7 {x0 x1 x2 x3 x4 x5 x6 : Operand} {v0 v1 v2 v3 v4 v5 v6 : AV} {j0 j1 j2 j3 j4 j5 j6 : Nat} {zl : List Value} {pl : List (Nat × Nat)} [TSt P t zl pl] (h0 : Rd c T x0 v0) (h1 : Rd c T x1 v1) (h2 : Rd c T x2 v2) (h3 : Rd c T x3 v3) (h4 : Rd c T x4 v4) (h5 : Rd c T x5 v5) (h6 : Rd c T x6 v6) (hf : fillA pl (zl.map .prim) [(j0, v0), (j1, v1), (j2, v2), (j3, v3), (j4, v4), (j5, v5), (j6, v6)] = some cs) : Stp c P ⟨dst, .build t #[(j0, x0), (j1, x1), (j2, x2), (j3, x3), (j4, x4), (j5, x5), (j6, x6)], ty, pos, after, g⟩ T S [(x0, v0), (x1, v1), (x2, v2), (x3, v3), (x4, v4), (x5, v5), (x6, v6)] [] (.agg cs) [] := ⟨.build (ps := [(j0, x0, v0), (j1, x1, v1), (j2, x2, v2), (j3, x3, v3), (j4, x4, v4), (j5, x5, v5), (j6, x6, v6)]) TSt.h hf, (.cons h0 (.cons h1 (.cons h2 (.cons h3 (.cons h4 (.cons h5 (.cons h6 .nil))))))), .nil⟩
theorem func7 {x0 x1 x2 x3 x4 x5 x6 : Operand} {v0 v1 v2 v3 v4 v5 v6 : AV} {f : FuncId} (h0 : Rd c T x0 v0) (h1 : Rd c T x1 v1) (h2 : Rd c T x2 v2) (h3 : Rd c T x3 v3) (h4 : Rd c T x4 v4) (h5 : Rd c T x5 v5) (h6 : Rd c T x6 v6) (hs : st1s [v0, v1, v2, v3, v4, v5, v6] = true) : Stp c P ⟨dst, .makeFunc (.func f) #[] #[x0, x1, x2, x3, x4, x5, x6], ty, pos, after, g⟩ T S [(x0, v0), (x1, v1), (x2, v2), (x3, v3), (x4, v4), (x5, v5), (x6, v6)] [] (.fn f [v0, v1, v2, v3, v4, v5, v6]) [] := ⟨.makeFunc (xs := [(x0, v0), (x1, v1), (x2, v2), (x3, v3), (x4, v4), (x5, v5), (x6, v6)]) hs, (.cons h0 (.cons h1 (.cons h2 (.cons h3 (.cons h4 (.cons h5 (.cons h6 .nil))))))), .nil⟩
end W
end
end Go.Proofs.Ytbfcbfgpbbkecaa

namespace Go.Proofs.Ytbfcbfgpbbkecaa
set_option linter.unusedVariables false
theorem put_back {Zr : Zs} {z' : Slot × List Nat} : ∀ {S : List Slot} {p : Nat} {e : Slot}, S[p]? = some e → Zr.map (·.1) = S.eraseIdx p → ∃ Z2 : Zs, Z2.Perm (z' :: Zr) ∧ Z2.map (·.1) = S.set p z'.1
  | [], p, e, h, _ => by simp at h
  | a :: S, 0, e, h, hm => ⟨z' :: Zr, .refl _, by simpa using hm⟩
  | a :: S, p + 1, e, h, hm => by
    simp only [List.eraseIdx_cons_succ] at hm
    cases Zr with
    | nil => simp at hm
    | cons zr Zr =>
      simp only [List.map_cons, List.cons.injEq] at hm
      obtain ⟨Z0, h1, h2⟩ := put_back (Zr := Zr) (z' := z') (S := S) (p := p) (e := e) (by simpa using h) hm.2
      exact ⟨zr :: Z0, (h1.cons zr).trans (List.Perm.swap ..), by simp [h2, hm.1]⟩
section
variable {P : Program} {dst : Option Tmp} {f : FuncId} {xs : List (Operand × AV)} {ats : Array TypeId} {ty : TypeId} {pos : String} {after : Array Edge} {g : Option (Nat × Bool)} {X p : Nat} {o o' : AO} {r : AV}
/-- The function takes one object and hands it back. -/
def PO (P : Program) (f : FuncId) (args : List AV) (X : Nat) (o : AO) (r : AV) (o' : AO) : Prop := Spec P f args [(X, o)] fun r' S' => r' = r ∧ S' = [(X, o')]
theorem OpT.callO (h : PO P f (xs.map (·.2)) X o r o') (ht : noTup xs = true := by rfl) : OpT P ⟨dst, .call ⟨.value (.func f), (xs.map (·.1)).toArray, ats⟩, ty, pos, after, g⟩ xs [(p, (X, o))] r.frz [(p, (X, o'))] := by
  intro nt m0 T S a w hx hS hd hr
  obtain ⟨m, N, Z, rfl, h2, h3, h4⟩ := hr
  have h2' : Z.map (·.1) = S := h2
  have hSp := hS (p, (X, o)) (by simp)
  simp only at hSp
  have hSp2 := hSp
  rw [← h2', List.getElem?_map] at hSp2
  cases hz : Z[p]? with
  | none => rw [hz] at hSp2; cases hSp2
  | some z =>
    rw [hz] at hSp2
    simp only [Option.map_some, Option.some.injEq] at hSp2
    have G1 := h3.perm (perm_erase hz)
    refine wp_call (fun _ => rfl) h.fn ?_
    refine (h.run (S.eraseIdx p) m N (z :: Z.eraseIdx p) _ (by simp [hSp2, map_erase, h2']) G1.self (by have := vts_of (noTup_spec ht) fun q hq => h4.ev (hx q hq); simpa [Function.comp_def] using this)).mono ?_
    rintro e w' ⟨v, r', S', m', N', Z', br, rfl, rfl, hm, G', hv, rfl, rfl⟩
    obtain ⟨G2, hle⟩ := Good.freeze (ex := br) (ex' := []) (by simpa using h3.after G') _ rfl
    cases Z' with
    | nil => simp at hm
    | cons z' Zr =>
      simp only [List.map_cons, List.cons_append, List.nil_append, List.cons.injEq] at hm
      obtain ⟨Z2, h5, h6⟩ := put_back (z' := z') hSp hm.2
      refine ⟨v, rfl, { m' with F := fun b => m'.F b ∨ b ∈ br }, N', Z2, rfl, ?_, G2.perm h5.symm, ((h4.mono G'.le).mono hle).put hd (VV.frz hle (fun b hb => ⟨.inr hb, rfl⟩) hv)⟩
      simp only [setAll]
      rw [h6, hm.1]
end
theorem Ends.plainS {P : Program} {t : Nat} {Sf S' : List Slot} {Q : AV → List Slot → Prop} {st : St} {a : AV} (h : look st.T t = some a) (ha : ntup a = true) (hS : (S' ++ Sf).Sublist st.S) (hQ : Q a S') : Ends P [.tmp t] Sf Q st :=
  ⟨[a], [a], st.S, S', .cons (.tmp h) ha .nil, .cons (.cell .same) .nil, hS, hQ⟩
namespace W
variable {P : Program} {dst : Option Tmp} {ty : TypeId} {pos : String} {after : Array Edge} {g : Option (Nat × Bool)} {T : List (Nat × AV)} {S : List Slot} {c : Option (List Bool)} {X p : Nat} {o o' : AO} {r r' : AV} {f : FuncId} {ats : Array TypeId}
theorem callO1 {x0 : Operand} {v0 : AV} (h0 : Rd c T x0 v0) (hSp : At S p (X, o)) (h : PO P f [v0] X o r o') (ht : noTup [(x0, v0)] = true) (hf : r.frz = r') : Stp c P ⟨dst, .call ⟨.value (.func f), #[x0], ats⟩, ty, pos, after, g⟩ T S [(x0, v0)] [(p, (X, o))] r' [(p, (X, o'))] := ⟨hf ▸ OpT.callO (xs := [(x0, v0)]) h ht, (.cons h0 .nil), .cons hSp .nil⟩
theorem callO2 {x0 x1 : Operand} {v0 v1 : AV} (h0 : Rd c T x0 v0) (h1 : Rd c T x1 v1) (hSp : At S p (X, o)) (h : PO P f [v0, v1] X o r o') (ht : noTup [(x0, v0), (x1, v1)] = true) (hf : r.frz = r') : Stp c P ⟨dst, .call ⟨.value (.func f), #[x0, x1], ats⟩, ty, pos, after, g⟩ T S [(x0, v0), (x1, v1)] [(p, (X, o))] r' [(p, (X, o'))] := ⟨hf ▸ OpT.callO (xs := [(x0, v0), (x1, v1)]) h ht, (.cons h0 (.cons h1 .nil)), .cons hSp .nil⟩
end W
end Go.Proofs.Ytbfcbfgpbbkecaa

namespace Go.Proofs.Ytbfcbfgpbbkecaa
set_option linter.unusedVariables false
variable {ro : Option Nat}
mutual
inductive Ic (B : AV → AV → Prop) : AV → AV → Prop
  | same {a : AV} : Ic B a a
  | base {a b : AV} (h : B a b) : Ic B a b
  | agg {as bs : List AV} (h : Ics B as bs) : Ic B (.agg as) (.agg bs)
inductive Ics (B : AV → AV → Prop) : List AV → List AV → Prop
  | nil : Ics B [] []
  | cons {a b : AV} {as bs : List AV} (h : Ic B a b) (k : Ics B as bs) : Ics B (a :: as) (b :: bs)
end
/-- A slice of the row reads as a list. -/
inductive IceB (X : Nat) (t : TypeId) (sz : Nat) (l : List AV) : AV → AV → Prop
  | sl {off n : Nat} (h : off + n ≤ l.length) : IceB X t sz l (.sl X off n) (.lst false t sz (AV.frzs ((l.drop off).take n)))
/-- A nil slice is the empty slice of a new row. -/
inductive AdB (X : Nat) : AV → AV → Prop
  | nil : AdB X (.prim (.slice none 0 0)) (.sl X 0 0)
section
variable {X : Nat} {t : TypeId} {sz : Nat} {l : List AV} {m m' : Mem} {B : AV → AV → Prop}
def Wd1 (B : AV → AV → Prop) : Prop := ∀ a b, B a b → b.width = a.width
def Vc1 (B : AV → AV → Prop) (m m' : Mem) : Prop := ∀ a b, B a b → ∀ c bs, VC m a c bs → VC m' b c bs
theorem IceB.wd1 : Wd1 (IceB X t sz l) := fun a b h => by cases h; rfl
theorem AdB.wd1 : Wd1 (AdB X) := fun a b h => by cases h; rfl
theorem IceB.vc1 (hv : ∀ off n c, off + n ≤ l.length → VC m (.sl X off n) c [] → VC m' (.lst false t sz (AV.frzs ((l.drop off).take n))) c []) : Vc1 (IceB X t sz l) m m' := fun a b h c bs k => by
  cases h with
  | sl h =>
    obtain rfl := k.1
    exact hv _ _ _ h k
theorem AdB.vc1 (hv : VC m' (.sl X 0 0) [.slice none 0 0] []) : Vc1 (AdB X) m m' := fun a b h c bs k => by
  cases h with
  | nil =>
    obtain ⟨⟨rfl, _⟩, rfl⟩ := k
    exact hv
mutual
theorem Ic.width (hB : Wd1 B) : {a b : AV} → Ic B a b → b.width = a.width
  | _, _, .same => rfl
  | _, _, .base h => hB _ _ h
  | _, _, .agg h => Ics.widths hB h
theorem Ics.widths (hB : Wd1 B) : {a b : List AV} → Ics B a b → AV.widths b = AV.widths a
  | _, _, .nil => rfl
  | _, _, .cons h k => by simp only [AV.widths, Ic.width hB h, Ics.widths hB k]
end
mutual
theorem Ic.vc (hle : m.Le m') (hB : Vc1 B m m') (hw : m'.w = m.w) : {a b : AV} → Ic B a b → {c : List Value} → {bs : List Nat} → VC m a c bs → VC m' b c bs
  | a, _, .same, _, _, k => VC.mono hle a (fun _ _ => by rw [hw]) k
  | _, _, .base h, _, _, k => hB _ _ h _ _ k
  | _, _, .agg h, _, _, k => Ics.vcs hle hB hw h k
theorem Ics.vcs (hle : m.Le m') (hB : Vc1 B m m') (hw : m'.w = m.w) : {a b : List AV} → Ics B a b → {c : List Value} → {bs : List Nat} → VCs m a c bs → VCs m' b c bs
  | _, _, .nil, _, _, k => k
  | _, _, .cons h k, _, _, ⟨c1, c2, b1, b2, e1, e2, k1, k2⟩ => ⟨c1, c2, b1, b2, e1, e2, Ic.vc hle hB hw h k1, Ics.vcs hle hB hw k k2⟩
end
theorem Ics.len {a b : List AV} (h : Ics B a b) : b.length = a.length := by
  induction a generalizing b with
  | nil => cases h; rfl
  | cons x a ih => cases h with | cons h k => simp [ih k]
theorem Ics.wd (hB : Wd1 B) {a b : List AV} {n : Nat} (h : Ics B a b) (hw : ∀ e ∈ a, e.width = n) : ∀ e ∈ b, e.width = n := by
  induction a generalizing b with
  | nil => cases h; intro e he; cases he
  | cons x a ih =>
    cases h with
    | cons h k =>
      intro e he
      rcases List.mem_cons.1 he with rfl | he
      · rw [h.width hB]; exact hw x (by simp)
      · exact ih k (fun e he => hw e (by simp [he])) e he
theorem Ics.orel {Y : Nat} {t2 : TypeId} {sz2 : Nat} {l2 l2' : List AV} {bs : List Nat} (hI : Ics B l2 l2') (hle : m.Le m') (hμ : ∀ L, m.μ Y = some L → m'.μ Y = some L) (hBw : Wd1 B) (hB : Vc1 B m m') (hw : m'.w = m.w) (h : ORel m Y (.row t2 sz2 l2) bs) : ORel m' Y (.row t2 sz2 l2') bs := by
  obtain ⟨hU, L, h1, h2, h3⟩ := h
  refine ⟨hle.U _ hU, L, hμ L h1, h2, ?_⟩
  rcases h3 with ⟨h4, rfl, h5⟩ | ⟨h4, arr, bs', h5, h6, h7, h8, h9, h10, h11⟩
  · cases hI; exact .inl ⟨h4, rfl, h5⟩
  · refine .inr ⟨h4, arr, bs', h5, by rw [hw]; exact h6, h7, by rw [hI.len]; exact h8, h9, hI.wd hBw h10, ?_⟩
    rw [hI.len]
    exact Ics.vcs hle hB hw hI h11
theorem Good.reval {m0 : Mem} {N : Nat} {ex bs : List Nat} {A R : Zs} {Y : Nat} {o o' : AO} (G : Good m0 m N (A ++ ((Y, o), bs) :: R) ex) (h : ORel m Y o' bs) : Good m0 m N (A ++ ((Y, o'), bs) :: R) ex := by
  have e1 : Zs.own (A ++ ((Y, o'), bs) :: R) = Zs.own (A ++ ((Y, o), bs) :: R) := by simp [Zs.own]
  have e2 : Zs.keys (A ++ ((Y, o'), bs) :: R) = Zs.keys (A ++ ((Y, o), bs) :: R) := by simp [Zs.keys]
  refine ⟨fun z hz => ?_, by rw [e1]; exact G.own, by rw [e1]; exact G.blk, G.frz, by rw [e2]; exact G.keys, by rw [e2]; exact G.keyN, G.usedN, G.le, G.os, G.tape, G.output, G.size⟩
  rcases List.mem_append.1 hz with hz | hz
  · exact G.obj z (by simp [hz])
  · rcases List.mem_cons.1 hz with rfl | hz
    · exact h
    · exact G.obj z (by simp [hz])
/-- A row is frozen, and the values of another row that refer to it read as lists. -/
theorem St.iceIn {nt : Nat} {st : St} {p q Y : Nat} {t2 : TypeId} {sz2 : Nat} {l2 l2' : List AV} (hpq : p ≠ q) (hS : At st.S p (X, .row t sz l)) (hq : At st.S q (Y, .row t2 sz2 l2)) (hI : Ics (IceB X t sz l) l2 l2') : St.To nt st fun st' => st' = ⟨st.T, (st.S.set p (X, .used)).set q (Y, .row t2 sz2 l2')⟩ := by
  rintro m0 a w ⟨m, N, Z, rfl, h2, h3, h4⟩
  obtain ⟨bs, hz⟩ := hS.z h2
  obtain ⟨bs2, hz2⟩ := hq.z h2
  obtain ⟨R, hp1, hp2⟩ := perm_get2 hpq hz hz2
  have G0 := h3.perm hp1
  obtain ⟨m', hw, G', hle, hv, _⟩ := G0.iced
  have hY : ORel m Y (.row t2 sz2 l2) bs2 := G0.obj ((Y, .row t2 sz2 l2), bs2) (by simp)
  have hY' : ORel m' Y (.row t2 sz2 l2) bs2 := G'.obj ((Y, .row t2 sz2 l2), bs2) (by simp)
  have hμ : ∀ L, m.μ Y = some L → m'.μ Y = some L := by
    intro L hL
    obtain ⟨_, L', h5, _⟩ := hY'
    have := hle.μ Y L' hY.1 h5
    rw [hL] at this
    injection this with this
    rw [this]
    exact h5
  have G2 := Good.reval (A := [((X, AO.used), [])]) G' (hI.orel hle hμ IceB.wd1 (IceB.vc1 hv) hw hY)
  exact ⟨⟨st.T, (st.S.set p (X, .used)).set q (Y, .row t2 sz2 l2')⟩, ⟨m', N, (Z.set p ((X, .used), [])).set q ((Y, .row t2 sz2 l2'), bs2), hw, by rw [List.map_set, List.map_set, h2], G2.perm (hp2 _ _).symm, h4.mono hle⟩, rfl⟩
theorem St.adoptIn {nt : Nat} {st : St} {q Y : Nat} {t2 : TypeId} {sz2 : Nat} {l2 : List AV} {l2' : Nat → List AV} (t : TypeId) (sz : Nat) (hq : At st.S q (Y, .row t2 sz2 l2)) (hI : ∀ X, Ics (AdB X) l2 (l2' X)) : St.To nt st fun st' => ∃ X, st' = ⟨st.T, (X, .row t sz []) :: st.S.set q (Y, .row t2 sz2 (l2' X))⟩ := by
  rintro m0 a w ⟨m, N, Z, rfl, h2, h3, h4⟩
  obtain ⟨bs2, hz2⟩ := hq.z h2
  obtain ⟨R, hp1, hp2⟩ := perm_get hz2
  have G0 := h3.perm hp1
  obtain ⟨m', hw, G', hle, hv⟩ := G0.adopt t sz
  have hY : ORel m Y (.row t2 sz2 l2) bs2 := G0.obj ((Y, .row t2 sz2 l2), bs2) (by simp)
  have hY' : ORel m' Y (.row t2 sz2 l2) bs2 := G'.obj ((Y, .row t2 sz2 l2), bs2) (by simp)
  have hμ : ∀ L, m.μ Y = some L → m'.μ Y = some L := by
    intro L hL
    obtain ⟨_, L', h5, _⟩ := hY'
    have := hle.μ Y L' hY.1 h5
    rw [hL] at this
    injection this with this
    rw [this]
    exact h5
  have G2 := Good.reval (A := [((N, AO.row t sz []), [])]) G' ((hI N).orel hle hμ AdB.wd1 (AdB.vc1 hv) hw hY)
  exact ⟨⟨st.T, (N, .row t sz []) :: st.S.set q (Y, .row t2 sz2 (l2' N))⟩, ⟨m', N + 1, ((N, .row t sz []), []) :: Z.set q ((Y, .row t2 sz2 (l2' N)), bs2), hw, by rw [List.map_cons, List.map_set, h2], G2.perm ((hp2 _).symm.cons _), h4.mono hle⟩, N, rfl⟩
theorem AWP.adoptIn {P : Program} {nt : Nat} {c : Code} {Q : Exit → St → Prop} {T : List (Nat × AV)} {S : List Slot} {q Y : Nat} {t2 : TypeId} {sz2 : Nat} {l2 : List AV} {l2' : Nat → List AV} (t : TypeId) (sz : Nat) (hq : At S q (Y, .row t2 sz2 l2)) (hI : ∀ X, Ics (AdB X) l2 (l2' X)) (k : ∀ X, AWP ro P nt c Q ⟨T, (X, .row t sz []) :: S.set q (Y, .row t2 sz2 (l2' X))⟩) : AWP ro P nt c Q ⟨T, S⟩ :=
  .ghost (St.adoptIn (st := ⟨T, S⟩) t sz hq hI) fun st' ⟨X, e⟩ => by subst e; exact k X
theorem AWP.iceIn {P : Program} {nt : Nat} {c : Code} {Q : Exit → St → Prop} {T : List (Nat × AV)} {S : List Slot} {p q Y : Nat} {t2 : TypeId} {sz2 : Nat} {l2 l2' : List AV} (hS : At S p (X, .row t sz l)) (hq : At S q (Y, .row t2 sz2 l2)) (hpq : Nat.beq p q = false) (hI : Ics (IceB X t sz l) l2 l2') (k : AWP ro P nt c Q ⟨T, (S.set p (X, .used)).set q (Y, .row t2 sz2 l2')⟩) : AWP ro P nt c Q ⟨T, S⟩ :=
  .ghost (St.iceIn (st := ⟨T, S⟩) (fun e => by subst e; simp at hpq) hS hq hI) fun st' e => by subst e; exact k
theorem AOps.ice {P : Program} {nt : Nat} {ops : Array Oper} {rest : List Oper} {Q : Exit → St → Prop} {T : List (Nat × AV)} {S : List Slot} {p d n : Nat} (hd : look T d = some (.sl X 0 n)) (hS : At S p (X, .row t sz l)) (hn : n = l.length) (k : AOps ro P nt ops Q rest ⟨(d, .lst false t sz (AV.frzs l)) :: T, S.set p (X, .used)⟩) : AOps ro P nt ops Q rest ⟨T, S⟩ :=
  .ghost (St.ice (st := ⟨T, S⟩) hd hS hn) fun st' e => by subst e; exact k
theorem AWP.ice {P : Program} {nt : Nat} {c : Code} {Q : Exit → St → Prop} {T : List (Nat × AV)} {S : List Slot} {p d n : Nat} (hd : look T d = some (.sl X 0 n)) (hS : At S p (X, .row t sz l)) (hn : n = l.length) (k : AWP ro P nt c Q ⟨(d, .lst false t sz (AV.frzs l)) :: T, S.set p (X, .used)⟩) : AWP ro P nt c Q ⟨T, S⟩ :=
  .ghost (St.ice (st := ⟨T, S⟩) hd hS hn) fun st' e => by subst e; exact k
theorem AWP.adopt {P : Program} {nt : Nat} {c : Code} {Q : Exit → St → Prop} {T : List (Nat × AV)} {S : List Slot} {d : Nat} (t : TypeId) (sz : Nat) (hd : look T d = some (.prim (.slice none 0 0))) (k : ∀ X, AWP ro P nt c Q ⟨(d, .sl X 0 0) :: T, (X, .row t sz []) :: S⟩) : AWP ro P nt c Q ⟨T, S⟩ :=
  .ghost (St.adopt (st := ⟨T, S⟩) t sz hd) fun st' ⟨X, e⟩ => by subst e; exact k X
end
end Go.Proofs.Ytbfcbfgpbbkecaa

namespace Go.Proofs.Ytbfcbfgpbbkecaa
set_option linter.unusedVariables false
theorem fillE_len {sz : Nat} : ∀ (xs : List (Nat × AV)) (l l' : List AV), fillE sz l xs = some l' → l'.length = l.length
  | [], l, l', h => by injection h with h; rw [h]
  | (i, v) :: r, l, l', h => by
    unfold fillE at h
    split at h
    · cases h
    · rw [fillE_len r _ _ h, List.length_set]
theorem Rel.sub {nt : Nat} {m0 : Mem} {T : List (Nat × AV)} {S S' : List Slot} {a : Act} {w : World} (h : Rel nt m0 ⟨T, S⟩ a w) (k : S'.Sublist S) : Rel nt m0 ⟨T, S'⟩ a w := by
  obtain ⟨m, N, Z, h1, h2, h3, h4⟩ := h
  obtain ⟨Z', hs, hm⟩ := sub_lift _ k h2
  exact ⟨m, N, Z', h1, hm, h3.sub hs, h4⟩
/-- The value b is the value a with all that it owns frozen. -/
class Frz (a : AV) (b : outParam AV) : Prop where h : a.frz = b
class Frzs (a : List AV) (b : outParam (List AV)) : Prop where h : AV.frzs a = b
instance {u : Value} : Frz (.prim u) (.prim u) := ⟨rfl⟩
instance {o : Bool} {t : TypeId} {sz : Nat} {l l' : List AV} [h : Frzs l l'] : Frz (.lst o t sz l) (.lst false t sz l') := ⟨by show AV.lst false t sz (AV.frzs l) = _; rw [h.h]⟩
instance {l l' : List AV} [h : Frzs l l'] : Frz (.agg l) (.agg l') := ⟨by show AV.agg (AV.frzs l) = _; rw [h.h]⟩
instance {l l' : List AV} [h : Frzs l l'] : Frz (.tup l) (.tup l') := ⟨by show AV.tup (AV.frzs l) = _; rw [h.h]⟩
instance : Frzs [] [] := ⟨rfl⟩
instance {a b : AV} {l l' : List AV} [h : Frz a b] [k : Frzs l l'] : Frzs (a :: l) (b :: l') := ⟨by show AV.frz a :: AV.frzs l = _; rw [h.h, k.h]⟩
instance {α : Type} {f g : α → AV} {l : List α} [h : ∀ a, Frz (f a) (g a)] : Frzs (l.map f) (l.map g) := ⟨by rw [frzs_map, List.map_map]; exact List.map_congr_left fun a _ => (h a).h⟩
/-! ### structs in plain sight -/
def over : List AV → List AV → List AV
  | w :: ws, _ :: cs => w :: over ws cs
  | _, cs => cs
def putC : List AV → Nat → List AV → List AV
  | cs, 0, ws => over ws cs
  | c :: cs, k + 1, ws => c :: putC cs k ws
  | [], _ + 1, _ => []
def offC : List (Nat × Nat) → Nat → Nat
  | (o, _) :: _, 0 => o
  | _ :: r, i + 1 => offC r i
  | [], _ => 0
def fillC (pl : List (Nat × Nat)) : List AV → List (Nat × AV) → List AV
  | cs, [] => cs
  | cs, (i, v) :: r => fillC pl (putC cs (offC pl i) v.cells) r
def putN : AV → Nat → AV → AV
  | .agg cs, k, v => .agg (putC cs k v.cells)
  | _, _, v => v
theorem fill_nrm {pl : List (Nat × Nat)} {l cs : List AV} {xs : List (Nat × AV)} (h : fillC pl l xs = cs) (k : fillA pl l xs = some (fillC pl l xs)) : fillA pl l xs = some cs := h ▸ k
theorem set_nrm {l l' : List AV} {a b : Nat} {e v : AV} (h : l.set a (putN e b v) = l') (k : putPart e b v = putN e b v) : l.set a (putPart e b v) = l' := k ▸ h
section
variable {P : Program} {dst : Option Tmp} {ty t te : TypeId} {pos : String} {after : Array Edge} {g : Option (Nat × Bool)} {sz : Nat}
theorem OpT.litF {ps : List (Nat × Operand × AV)} {zl : List Value} {ag : Bool} {n : Nat} {l : List AV} (he : tElem P t = some te) (hz : tZ P te = some zl) (hsz : tSz P te = some sz) (hzs : zl.length = sz) (hag : ag = true ∨ zl.length = 1) (hn : n * sz ≤ 16777216) (h0 : 0 < n * sz)
    (hf : fillE sz (List.replicate n (zAV zl ag)) (ps.map fun q => (q.1, q.2.2)) = some l) : OpT P ⟨dst, .buildSlice t n (ps.map fun q => (q.1, q.2.1)).toArray, ty, pos, after, g⟩ (ps.map (·.2)) [] (.lst false te sz (AV.frzs l)) [] := by
  intro nt m0 T S a w hx hS hd hr
  obtain ⟨_, hr', X, rfl⟩ := St.reserve (nt := nt) ⟨T, S⟩ m0 a w hr
  have hl : n = l.length := by rw [fillE_len _ _ _ hf, List.length_replicate]
  refine Oper.wp_mono (fun a' w' h => ?_) (OpT.buildSlice (dst := dst) (ty := ty) (t := t) (pos := pos) (after := after) (g := g) (X := X) (p := 0) he hz hsz hzs hag hn h0 hf nt m0 T ((X, .gone) :: S) a w hx (by simp) hd hr')
  cases dst with
  | none => exact Rel.sub h (.cons _ (.refl _))
  | some d =>
    obtain ⟨_, h2, rfl⟩ := St.ice (nt := nt) (st := ⟨putD T (some d) (.sl X 0 n), setAll ((X, .gone) :: S) [(0, (X, .row te sz l))]⟩) (d := d) (n := n) (p := 0) (X := X) (t := te) (sz := sz) (l := l) (by simp [putD, look_cons]) .here hl m0 a' w' h
    refine Rel.sub (Rel.congr h2 fun e v he => ?_) (.cons _ (.refl _))
    simp only [putD, look_cons] at he ⊢
    by_cases e' : e = d
    · simpa [e'] using he
    · simpa [e'] using he
end
namespace W
theorem storeN {P : Program} {dst : Option Tmp} {ty t t' : TypeId} {pos : String} {after : Array Edge} {g : Option (Nat × Bool)} {T : List (Nat × AV)} {S : List Slot} {c : Option (List Bool)} {l l' : List AV} {x y : Operand} {X p sz n a b : Nat} {e v : AV} [TSize P t n] (hx : Rd c T x (.ptr X a b)) (hy : Rd c T y v) (hSp : At S p (X, .row t' sz l)) (hi : l[a]? = some e) (h : putOk e b n v = true) (hl : l.set a (putPart e b v) = l') : Stp c P ⟨dst, .store t x y, ty, pos, after, g⟩ T S [(x, .ptr X a b), (y, v)] [(p, (X, .row t' sz l))] .dead [(p, (X, .row t' sz l'))] := hl ▸ W.store hx hy hSp hi h
theorem allocN {P : Program} {dst : Option Tmp} {ty t : TypeId} {pos : String} {after : Array Edge} {g : Option (Nat × Bool)} {T : List (Nat × AV)} {S : List Slot} {c : Option (List Bool)} {X p : Nat} {zl : List Value} {ag : Bool} {a : AV} {n : Nat} [TZe P t zl] [TAg P t ag] (hSp : At S p (X, .gone)) (h : ag = true ∨ zl.length = 1) (hz : zAV zl ag = a) (hn : zl.length = n) : Stp c P ⟨dst, .alloc t, ty, pos, after, g⟩ T S [] [(p, (X, .gone))] (.ptr X 0 0) [(p, (X, .row t n [a]))] := hz ▸ hn ▸ W.alloc hSp h
theorem loadW {P : Program} {dst : Option Tmp} {ty t t' : TypeId} {pos : String} {after : Array Edge} {g : Option (Nat × Bool)} {T : List (Nat × AV)} {S : List Slot} {c : Option (List Bool)} {l : List AV} {x : Operand} {X p sz n a : Nat} {e : AV} [TAg P t true] [TSize P t n] (hx : Rd c T x (.ptr X a 0)) (hSp : At S p (X, .row t' sz l)) (hi : l[a]? = some e) (h : partOf e.cells 0 n true = some e) : Stp c P ⟨dst, .load t x, ty, pos, after, g⟩ T S [(x, .ptr X a 0)] [(p, (X, .row t' sz l))] e [] := W.load hx hSp hi h
theorem loadFW {P : Program} {dst : Option Tmp} {ty t : TypeId} {pos : String} {after : Array Edge} {g : Option (Nat × Bool)} {T : List (Nat × AV)} {S : List Slot} {c : Option (List Bool)} {x : Operand} {n : Nat} {e : AV} [TAg P t true] [TSize P t n] (hx : Rd c T x (.fp e.cells)) (h : partOf e.cells 0 n true = some e) : Stp c P ⟨dst, .load t x, ty, pos, after, g⟩ T S [(x, .fp e.cells)] [] e [] := W.loadF hx h
variable {P : Program} {dst : Option Tmp} {ty t te : TypeId} {pos : String} {after : Array Edge} {g : Option (Nat × Bool)} {sz : Nat} {T : List (Nat × AV)} {S : List Slot} {c : Option (List Bool)} {l l' : List AV}
theorem litF0  {zl : List Value} {ag : Bool} [TEl P t te] [TZe P te zl] [TSize P te sz] [TAg P te ag]  (hzs : zl.length = sz) (hag : ag = true ∨ zl.length = 1) (hn : 0 * sz ≤ 16777216) (hpos : 0 < 0 * sz) (hf : fillE sz (List.replicate 0 (zAV zl ag)) [] = some []) [hz : Frzs [] l'] : Stp c P ⟨dst, .buildSlice t 0 #[], ty, pos, after, g⟩ T S [] [] (.lst false te sz l') [] := ⟨hz.h ▸ OpT.litF (ps := []) TEl.h TZe.h TSize.h hzs hag hn hpos hf, .nil, .nil⟩
theorem litF1 {x0 : Operand} {v0 : AV} {zl : List Value} {ag : Bool} [TEl P t te] [TZe P te zl] [TSize P te sz] [TAg P te ag] (h0 : Rd c T x0 v0) (hzs : zl.length = sz) (hag : ag = true ∨ zl.length = 1) (hn : 1 * sz ≤ 16777216) (hpos : 0 < 1 * sz) (hf : fillE sz (List.replicate 1 (zAV zl ag)) [(0, v0)] = some [v0]) [hz : Frzs [v0] l'] : Stp c P ⟨dst, .buildSlice t 1 #[(0, x0)], ty, pos, after, g⟩ T S [(x0, v0)] [] (.lst false te sz l') [] := ⟨hz.h ▸ OpT.litF (ps := [(0, x0, v0)]) TEl.h TZe.h TSize.h hzs hag hn hpos hf, (.cons h0 .nil), .nil⟩
theorem litF2 {x0 : Operand} {v0 : AV} {x1 : Operand} {v1 : AV} {zl : List Value} {ag : Bool} [TEl P t te] [TZe P te zl] [TSize P te sz] [TAg P te ag] (h0 : Rd c T x0 v0) (h1 : Rd c T x1 v1) (hzs : zl.length = sz) (hag : ag = true ∨ zl.length = 1) (hn : 2 * sz ≤ 16777216) (hpos : 0 < 2 * sz) (hf : fillE sz (List.replicate 2 (zAV zl ag)) [(0, v0), (1, v1)] = some [v0, v1]) [hz : Frzs [v0, v1] l'] : Stp c P ⟨dst, .buildSlice t 2 #[(0, x0), (1, x1)], ty, pos, after, g⟩ T S [(x0, v0), (x1, v1)] [] (.lst false te sz l') [] := ⟨hz.h ▸ OpT.litF (ps := [(0, x0, v0), (1, x1, v1)]) TEl.h TZe.h TSize.h hzs hag hn hpos hf, (.cons h0 (.cons h1 .nil)), .nil⟩
theorem litF3 {x0 : Operand} {v0 : AV} {x1 : Operand} {v1 : AV} {x2 : Operand} {v2 : AV} {zl : List Value} {ag : Bool} [TEl P t te] [TZe P te zl] [TSize P te sz] [TAg P te ag] (h0 : Rd c T x0 v0) (h1 : Rd c T x1 v1) (h2 : Rd c T x2 v2) (hzs : zl.length = sz) (hag : ag = true ∨ zl.length = 1) (hn : 3 * sz ≤ 16777216) (hpos : 0 < 3 * sz) (hf : fillE sz (List.replicate 3 (zAV zl ag)) [(0, v0), (1, v1), (2, v2)] = some [v0, v1, v2]) [hz : Frzs [v0, v1, v2] l'] : Stp c P ⟨dst, .buildSlice t 3 #[(0, x0), (1, x1), (2, x2)], ty, pos, after, g⟩ T S [(x0, v0), (x1, v1), (x2, v2)] [] (.lst false te sz l') [] := ⟨hz.h ▸ OpT.litF (ps := [(0, x0, v0), (1, x1, v1), (2, x2, v2)]) TEl.h TZe.h TSize.h hzs hag hn hpos hf, (.cons h0 (.cons h1 (.cons h2 .nil))), .nil⟩
theorem litF4 {x0 : Operand} {v0 : AV} {x1 : Operand} {v1 : AV} {x2 : Operand} {v2 : AV} {x3 : Operand} {v3 : AV} {zl : List Value} {ag : Bool} [TEl P t te] [TZe P te zl] [TSize P te sz] [TAg P te ag] (h0 : Rd c T x0 v0) (h1 : Rd c T x1 v1) (h2 : Rd c T x2 v2) (h3 : Rd c T x3 v3) (hzs : zl.length = sz) (hag : ag = true ∨ zl.length = 1) (hn : 4 * sz ≤ 16777216) (hpos : 0 < 4 * sz) (hf : fillE sz (List.replicate 4 (zAV zl ag)) [(0, v0), (1, v1), (2, v2), (3, v3)] = some [v0, v1, v2, v3]) [hz : Frzs [v0, v1, v2, v3] l'] : Stp c P ⟨dst, .buildSlice t 4 #[(0, x0), (1, x1), (2, x2), (3, x3)], ty, pos, after, g⟩ T S [(x0, v0), (x1, v1), (x2, v2), (x3, v3)] [] (.lst false te sz l') [] := ⟨hz.h ▸ OpT.litF (ps := [(0, x0, v0), (1, x1, v1), (2, x2, v2), (3, x3, v3)]) TEl.h TZe.h TSize.h hzs hag hn hpos hf, (.cons h0 (.cons h1 (.cons h2 (.cons h3 .nil)))), .nil⟩
theorem litF5 {x0 : Operand} {v0 : AV} {x1 : Operand} {v1 : AV} {x2 : Operand} {v2 : AV} {x3 : Operand} {v3 : AV} {x4 : Operand} {v4 : AV} {zl : List Value} {ag : Bool} [TEl P t te] [TZe P te zl] [TSize P te sz] [TAg P te ag] (h0 : Rd c T x0 v0) (h1 : Rd c T x1 v1) (h2 : Rd c T x2 v2) (h3 : Rd c T x3 v3) (h4 : Rd c T x4 v4) (hzs : zl.length = sz) (hag : ag = true ∨ zl.length = 1) (hn : 5 * sz ≤ 16777216) (hpos : 0 < 5 * sz) (hf : fillE sz (List.replicate 5 (zAV zl ag)) [(0, v0), (1, v1), (2, v2), (3, v3), (4, v4)] = some [v0, v1, v2, v3, v4]) [hz : Frzs [v0, v1, v2, v3, v4] l'] : Stp c P ⟨dst, .buildSlice t 5 #[(0, x0), (1, x1), (2, x2), (3, x3), (4, x4)], ty, pos, after, g⟩ T S [(x0, v0), (x1, v1), (x2, v2), (x3, v3), (x4, v4)] [] (.lst false te sz l') [] := ⟨hz.h ▸ OpT.litF (ps := [(0, x0, v0), (1, x1, v1), (2, x2, v2), (3, x3, v3), (4, x4, v4)]) TEl.h TZe.h TSize.h hzs hag hn hpos hf, (.cons h0 (.cons h1 (.cons h2 (.cons h3 (.cons h4 .nil))))), .nil⟩
theorem litF6 {x0 : Operand} {v0 : AV} {x1 : Operand} {v1 : AV} {x2 : Operand} {v2 : AV} {x3 : Operand} {v3 : AV} {x4 : Operand} {v4 : AV} {x5 : Operand} {v5 : AV} {zl : List Value} {ag : Bool} [TEl P t te] [TZe P te zl] [TSize P te sz] [TAg P te ag] (h0 : Rd c T x0 v0) (h1 : Rd c T x1 v1) (h2 : Rd c T x2 v2) (h3 : Rd c T x3 v3) (h4 : Rd c T x4 v4) (h5 : Rd c T x5 v5) (hzs : zl.length = sz) (hag : ag = true ∨ zl.length = 1) (hn : 6 * sz ≤ 16777216) (hpos : 0 < 6 * sz) (hf : fillE sz (List.replicate 6 (zAV zl ag)) [(0, v0), (1, v1), (2, v2), (3, v3), (4, v4), (5, v5)] = some [v0, v1, v2, v3, v4, v5]) [hz : Frzs [v0, v1, v2, v3, v4, v5] l'] : Stp c P ⟨dst, .buildSlice t 6 #[(0, x0), (1, x1), (2, x2), (3, x3), (4, x4), (5, x5)], ty, pos, after, g⟩ T S [(x0, v0), (x1, v1), (x2, v2), (x3, v3), (x4, v4), (x5, v5)] [] (.lst false te sz l') [] := ⟨hz.h ▸ OpT.litF (ps := [(0, x0, v0), (1, x1, v1), (2, x2, v2), (3, x3, v3), (4, x4, v4), (5, x5, v5)]) TEl.h TZe.h TSize.h hzs hag hn hpos hf, (.cons h0 (.cons h1 (.cons h2 (.cons h3 (.cons h4 (.cons h5 .nil)))))), .nil⟩
theorem litF7 {x0 : Operand} {v0 : AV} {x1 : Operand} {v1 : AV} {x2 : Operand} {v2 : AV} {x3 : Operand} {v3 : AV} {x4 : Operand} {v4 : AV} {x5 : Operand} {v5 : AV} {x6 : Operand} {v6 : AV} {zl : List Value} {ag : Bool} [TEl P t te] [TZe P te zl] [TSize P te sz] [TAg P te ag] (h0 : Rd c T x0 v0) (h1 : Rd c T x1 v1) (h2 : Rd c T x2 v2) (h3 : Rd c T x3 v3) (h4 : Rd c T x4 v4) (h5 : Rd c T x5 v5) (h6 : Rd c T x6 v6) (hzs : zl.length = sz) (hag : ag = true ∨ zl.length = 1) (hn : 7 * sz ≤ 16777216) (hpos : 0 < 7 * sz) (hf : fillE sz (List.replicate 7 (zAV zl ag)) [(0, v0), (1, v1), (2, v2), (3, v3), (4, v4), (5, v5), (6, v6)] = some [v0, v1, v2, v3, v4, v5, v6]) [hz : Frzs [v0, v1, v2, v3, v4, v5, v6] l'] : Stp c P ⟨dst, .buildSlice t 7 #[(0, x0), (1, x1), (2, x2), (3, x3), (4, x4), (5, x5), (6, x6)], ty, pos, after, g⟩ T S [(x0, v0), (x1, v1), (x2, v2), (x3, v3), (x4, v4), (x5, v5), (x6, v6)] [] (.lst false te sz l') [] := ⟨hz.h ▸ OpT.litF (ps := [(0, x0, v0), (1, x1, v1), (2, x2, v2), (3, x3, v3), (4, x4, v4), (5, x5, v5), (6, x6, v6)]) TEl.h TZe.h TSize.h hzs hag hn hpos hf, (.cons h0 (.cons h1 (.cons h2 (.cons h3 (.cons h4 (.cons h5 (.cons h6 .nil))))))), .nil⟩
theorem litF8 {x0 : Operand} {v0 : AV} {x1 : Operand} {v1 : AV} {x2 : Operand} {v2 : AV} {x3 : Operand} {v3 : AV} {x4 : Operand} {v4 : AV} {x5 : Operand} {v5 : AV} {x6 : Operand} {v6 : AV} {x7 : Operand} {v7 : AV} {zl : List Value} {ag : Bool} [TEl P t te] [TZe P te zl] [TSize P te sz] [TAg P te ag] (h0 : Rd c T x0 v0) (h1 : Rd c T x1 v1) (h2 : Rd c T x2 v2) (h3 : Rd c T x3 v3) (h4 : Rd c T x4 v4) (h5 : Rd c T x5 v5) (h6 : Rd c T x6 v6) (h7 : Rd c T x7 v7) (hzs : zl.length = sz) (hag : ag = true ∨ zl.length = 1) (hn : 8 * sz ≤ 16777216) (hpos : 0 < 8 * sz) (hf : fillE sz (List.replicate 8 (zAV zl ag)) [(0, v0), (1, v1), (2, v2), (3, v3), (4, v4), (5, v5), (6, v6), (7, v7)] = some [v0, v1, v2, v3, v4, v5, v6, v7]) [hz : Frzs [v0, v1, v2, v3, v4, v5, v6, v7] l'] : Stp c P ⟨dst, .buildSlice t 8 #[(0, x0), (1, x1), (2, x2), (3, x3), (4, x4), (5, x5), (6, x6), (7, x7)], ty, pos, after, g⟩ T S [(x0, v0), (x1, v1), (x2, v2), (x3, v3), (x4, v4), (x5, v5), (x6, v6), (x7, v7)] [] (.lst false te sz l') [] := ⟨hz.h ▸ OpT.litF (ps := [(0, x0, v0), (1, x1, v1), (2, x2, v2), (3, x3, v3), (4, x4, v4), (5, x5, v5), (6, x6, v6), (7, x7, v7)]) TEl.h TZe.h TSize.h hzs hag hn hpos hf, (.cons h0 (.cons h1 (.cons h2 (.cons h3 (.cons h4 (.cons h5 (.cons h6 (.cons h7 .nil)))))))), .nil⟩
end W
end Go.Proofs.Ytbfcbfgpbbkecaa

namespace Go.Proofs.Ytbfcbfgpbbkecaa
set_option linter.unusedVariables false
set_option linter.unusedSimpArgs false
variable {ro : Option Nat}
open Go.RowKit

section
variable {P : Program} {nt : Nat} {m0 m : Mem} {X p : Nat} {t : TypeId} {sz : Nat} {e : AV}
/-- A variable is frozen: the pointers to it that the temporaries d hold read into frozen memory. -/
theorem St.iceP {st : St} (ds : List Nat) (hd : ∀ d ∈ ds, look st.T d = some (.ptr X 0 0)) (hS : At st.S p (X, .row t sz [e])) : St.To nt st fun st' => st' = ⟨ds.map (fun d => (d, .fp e.frz.cells)) ++ st.T, st.S.set p (X, .used)⟩ := by
  rintro m0 a w ⟨m, N, Z, rfl, h2, h3, h4⟩
  obtain ⟨bs, hz⟩ := hS.z h2
  obtain ⟨R, hp1, hp2⟩ := perm_get hz
  obtain ⟨m', hw, G', hle, _, hv⟩ := (h3.perm hp1).iced
  refine ⟨_, ⟨m', N, Z.set p ((X, .used), []), hw, by rw [List.map_set, h2], G'.perm (hp2 _).symm, h4.1, h4.2.1.mono hle, ?_⟩, rfl⟩
  have hT : ∀ d v, look st.T d = some v → ∃ u, a.tmps[d]? = some u ∧ VV m v u [] := h4.2.2
  clear h4
  induction ds with
  | nil => exact fun d v h => let ⟨u, h5, h6⟩ := hT d v h; ⟨u, h5, h6.mono hle (by simp)⟩
  | cons d ds ih =>
    intro d' v h
    simp only [List.map_cons, List.cons_append] at h
    rw [look_cons] at h
    split at h
    · rename_i e'; subst e'
      injection h with h; subst h
      obtain ⟨u, h5, h6⟩ := hT _ _ (hd d' (by simp))
      exact ⟨u, h5, hv e [u] rfl h6⟩
    · exact ih (fun d hd' => hd d (by simp [hd'])) d' v h
end
section
variable {P : Program} {dst : Option Tmp} {ty t : TypeId} {pos : String} {after : Array Edge} {g : Option (Nat × Bool)} {x : Operand} {v : AV}
/-- A variable that is never written again. -/
theorem OpT.boxF (hs : v.stor = true) : OpT P ⟨dst, .box t x, ty, pos, after, g⟩ [(x, v)] [] (.fp v.frz.cells) [] := by
  intro nt m0 T S a w hx hS hd hr
  obtain ⟨_, hr', X, rfl⟩ := St.reserve (nt := nt) ⟨T, S⟩ m0 a w hr
  refine Oper.wp_mono (fun a' w' h => ?_) (OpT.box (dst := dst) (ty := ty) (t := t) (pos := pos) (after := after) (g := g) (X := X) (p := 0) hs nt m0 T ((X, .gone) :: S) a w hx (by simp) hd hr')
  cases dst with
  | none => exact Rel.sub h (.cons _ (.refl _))
  | some d =>
    obtain ⟨_, h2, rfl⟩ := St.iceP (nt := nt) (st := ⟨putD T (some d) (.ptr X 0 0), setAll ((X, .gone) :: S) [(0, (X, .row t v.width [v]))]⟩) (p := 0) (X := X) (t := t) (sz := v.width) (e := v) [d] (by simp [putD, look_cons]) .here m0 a' w' h
    refine Rel.sub (Rel.congr h2 fun e v he => ?_) (.cons _ (.refl _))
    simp only [putD, look_cons, List.map_cons, List.map_nil, List.cons_append, List.nil_append] at he ⊢
    by_cases e' : e = d
    · simpa [e'] using he
    · simpa [e'] using he
/-! ### calls of closures -/
theorem wp_callV {a : Act} {w : World} {args : Array Operand} {ats : Array TypeId} {f : FuncId} {vs : Array Value} {K : Act → World → Prop} (ha : a.eval x = .func (.func f) #[] vs) (hf : isFn P f = true)
    (h : Calls P f (args.map a.eval ++ vs) w fun e w' => ∃ v, e = .returned v ∧ K (a.put dst v) w') : Oper.wp P ⟨dst, .call ⟨.value x, args, ats⟩, ty, pos, after, g⟩ a w K (fun _ _ _ => False) := by
  unfold isFn at hf
  have hrun : (execOp a.eval ⟨dst, .call ⟨.value x, args, ats⟩, ty, pos, after, g⟩).run P w = .ok (.enter f (args.map a.eval ++ vs)) w := by
    split at hf
    · rename_i fn hfn
      simp only [Bool.and_eq_true, Bool.not_eq_true'] at hf
      have hb : fn.body.isNone = false := by
        cases hfb : fn.body with
        | none => rw [hfb] at hf; simp at hf
        | some c => rfl
      have h1 : ¬ fn.name = "runtime.NumGoroutine" := by simpa using hf.1
      have h2 : ¬ fn.body = none := by intro h; rw [h] at hb; cases hb
      simp [execOp, resolve, ha, Deferred.ofValue, invoke, callFunc, program, Sem.run_bind, Sem.run, Result.andThen_ok, hfn, h1, h2]
    · cases hf
  unfold Oper.wp
  rw [hrun]
  simp only [Oper.upon]
  refine h.mono fun e w' ⟨v, he, hk⟩ => ?_
  subst he
  exact hk
theorem vts_cap {m : Mem} : ∀ {cap : List AV} {us : List Value}, st1s cap = true → VCs m cap us [] → VTs m cap us []
  | [], us, _, h => ⟨h.1, rfl⟩
  | c :: cap, us, hs, h => by
    simp only [st1s, Bool.and_eq_true] at hs
    obtain ⟨c1, c2, b1, b2, rfl, e, h1, h2⟩ := h
    obtain ⟨rfl, rfl⟩ : b1 = [] ∧ b2 = [] := by simpa using e.symm
    have hl := VC.len _ h1
    have hw : c.width = 1 := by cases c <;> first | rfl | (simp [AV.st1] at hs)
    rw [hw] at hl
    obtain ⟨u, rfl⟩ := List.length_eq_one_iff.1 hl
    have hn : ntup c = true := by cases c <;> first | rfl | (simp [AV.st1] at hs)
    have hv : VV m c u [] := by cases c <;> first | exact h1 | (simp [AV.st1] at hs)
    exact (VTs_cons hn).2 ⟨u, c2, [], [], rfl, rfl, hv, vts_cap hs.2 h2⟩
theorem vts_app {m : Mem} : ∀ {l k : List AV} {us vs : List Value}, VTs m l us [] → VTs m k vs [] → VTs m (l ++ k) (us ++ vs) []
  | [], k, us, vs, h, h' => by obtain ⟨rfl, _⟩ := h; exact h'
  | a :: l, k, us, vs, h, h' => by
    have ha := h.ntup
    obtain ⟨u, us', b1, b2, rfl, e, h1, h2⟩ := (VTs_cons ha).1 h
    obtain ⟨rfl, rfl⟩ : b1 = [] ∧ b2 = [] := by simpa using e.symm
    exact (VTs_cons ha).2 ⟨u, us' ++ vs, [], [], rfl, rfl, h1, vts_app h2 h'⟩
variable {xs : List (Operand × AV)} {f : FuncId} {cap : List AV} {ats : Array TypeId} {r : AV}
/-- A call of a closure that only computes. -/
theorem OpT.callC (h : PS P f (xs.map (·.2) ++ cap) r) (hs : st1s cap = true) (ht : noTup xs = true) : OpT P ⟨dst, .call ⟨.value x, (xs.map (·.1)).toArray, ats⟩, ty, pos, after, g⟩ ((x, .fn f cap) :: xs) [] r.frz [] := by
  intro nt m0 T S a w hx hS hd hr
  obtain ⟨m, N, Z, rfl, h2, h3, h4⟩ := hr
  obtain ⟨vs, e1, h5⟩ := h4.ev (hx (x, .fn f cap) (by simp))
  injection e1 with e1
  refine wp_callV e1 h.fn ?_
  refine (h.run S m N Z _ h2 h3.self (by
    have := vts_app (vts_of (noTup_spec ht) fun q hq => h4.ev (hx q (by simp [hq]))) (vts_cap hs h5)
    simpa [Function.comp_def] using this)).mono ?_
  rintro e w' ⟨v, r', S', m', N', Z', br, rfl, rfl, hm, G', hv, rfl, rfl⟩
  obtain ⟨G2, hle⟩ := Good.freeze (ex := br) (ex' := []) (by simpa using h3.after G') _ rfl
  exact ⟨v, rfl, { m' with F := fun b => m'.F b ∨ b ∈ br }, N', Z', rfl, hm, G2, ((h4.mono G'.le).mono hle).put hd (VV.frz hle (fun b hb => ⟨.inr hb, rfl⟩) hv)⟩
variable {X p : Nat} {o o' : AO}
end
namespace W
variable {P : Program} {dst : Option Tmp} {ty t : TypeId} {pos : String} {after : Array Edge} {g : Option (Nat × Bool)} {T : List (Nat × AV)} {S : List Slot} {c : Option (List Bool)} {x : Operand} {v r r' : AV} {f : FuncId} {cap : List AV} {ats : Array TypeId} {X p : Nat} {o o' : AO}
theorem boxF (hx : Rd c T x v) (hs : v.stor = true) {b : AV} [hf : Frz v b] : Stp c P ⟨dst, .box t x, ty, pos, after, g⟩ T S [(x, v)] [] (.fp b.cells) [] := ⟨hf.h ▸ OpT.boxF hs, .cons hx .nil, .nil⟩
theorem func0 : Stp c P ⟨dst, .makeFunc (.func f) #[] #[], ty, pos, after, g⟩ T S [] [] (.fn f []) [] := ⟨.makeFunc (xs := []) rfl, .nil, .nil⟩
theorem callC2 {x0 : Operand} {v0 : AV} {x1 : Operand} {v1 : AV} (hx : Rd c T x (.fn f cap)) (h0 : Rd c T x0 v0) (h1 : Rd c T x1 v1) (h : PS P f (v0 :: v1 :: cap) r) (hs : st1s cap = true) (ht : noTup [(x0, v0), (x1, v1)] = true) (hf : r.frz = r') : Stp c P ⟨dst, .call ⟨.value x, #[x0, x1], ats⟩, ty, pos, after, g⟩ T S [(x, .fn f cap), (x0, v0), (x1, v1)] [] r' [] := ⟨hf ▸ OpT.callC (xs := [(x0, v0), (x1, v1)]) h hs ht, (.cons hx (.cons h0 (.cons h1 .nil))), .nil⟩
end W
end Go.Proofs.Ytbfcbfgpbbkecaa

namespace Go.Proofs.Ytbfcbfgpbbkecaa
set_option linter.unusedVariables false
variable {ro : Option Nat}
inductive Grd (ops : Array Oper) (T : List (Nat × AV)) : Option (Nat × Bool) → List Nat → Prop
  | none : Grd ops T .none []
  | met {g t : Nat} {b b' : Bool} (ht : (ops[g]?).bind (·.dst) = some t) (hv : look T t = some (.prim (.bool b'))) (hb : b' = b) : Grd ops T (some (g, b)) [t]
section
variable {P : Program} {nt : Nat} {ops : Array Oper} {Q : Exit → St → Prop} {l rest : List Oper} {acc : List Eff} {st : St} {T : List (Nat × AV)} {S : List Slot} {xs : List (Operand × AV)} {rS wS : List (Nat × Slot)} {v : AV} {op : Op} {ty : TypeId} {pos : String} {after : Array Edge} {dst : Option Tmp} {g : Option (Nat × Bool)} {ts : List Nat}
theorem Stp.ung {g' : Option (Nat × Bool)} {c : Option (List Bool)} (h : Stp c P ⟨dst, op, ty, pos, after, g⟩ T S xs rS v wS) : Stp c P ⟨dst, op, ty, pos, after, g'⟩ T S xs rS v wS := ⟨h.op, h.rd, h.get⟩
theorem RGo.sg (h : Stp none P ⟨dst, op, ty, pos, after, g⟩ T S xs rS v wS) (hd : dstOk dst nt = true) (hg : Grd ops T g ts) (k : RGo P nt ops l Q rest (acc ++ [⟨⟨dst, op, ty, pos, after, g⟩, ts ++ tmpsOf xs, rS.map (·.1), v, wS⟩]) ⟨putD T dst v, setAll S wS⟩) : RGo P nt ops l Q (⟨dst, op, ty, pos, after, g⟩ :: rest) acc ⟨T, S⟩ := by
  cases hg with
  | none => exact RGo.s h hd k
  | met ht hv hb => exact RGo.sG ht hv hb h.ung hd k
theorem RGo.pg (h : Stp none P ⟨dst, op, ty, pos, after, g⟩ T S xs rS v []) (hd : dstOk dst nt = true) (hg : Grd ops T g ts) (k : RGo P nt ops l Q rest (acc ++ [⟨⟨dst, op, ty, pos, after, g⟩, ts ++ tmpsOf xs, rS.map (·.1), v, []⟩]) ⟨putD T dst v, S⟩) : RGo P nt ops l Q (⟨dst, op, ty, pos, after, g⟩ :: rest) acc ⟨T, S⟩ := RGo.sg h hd hg k
end
namespace W
variable {P : Program} {dst : Option Tmp} {ty : TypeId} {pos : String} {after : Array Edge} {g : Option (Nat × Bool)} {T : List (Nat × AV)} {S : List Slot} {c : Option (List Bool)} {x y z : Operand} {v w : AV}
theorem pickB {b p q : Bool} (hx : Rd c T x (.prim (.bool b))) (hy : Rd c T y (.prim (.bool p))) (hz : Rd c T z (.prim (.bool q))) : Stp c P ⟨dst, .pick x y z, ty, pos, after, g⟩ T S [(x, .prim (.bool b)), (y, .prim (.bool p)), (z, .prim (.bool q))] [] (.prim (.bool (cond b p q))) [] := by
  cases b <;> exact pick hx hy hz
theorem pickT {b : Bool} {va vb : AV} (hx : Rd c T x (.prim (.bool b))) (hy : Rd c T y va) (hb : b = true) (hz : Rd c T z vb := by rfl) : Stp c P ⟨dst, .pick x y z, ty, pos, after, g⟩ T S [(x, .prim (.bool b)), (y, va), (z, vb)] [] va [] := by
  subst hb; exact pick hx hy hz
theorem pickF {b : Bool} {va vb : AV} (hx : Rd c T x (.prim (.bool b))) (hz : Rd c T z vb) (hb : b = false) (hy : Rd c T y va := by rfl) : Stp c P ⟨dst, .pick x y z, ty, pos, after, g⟩ T S [(x, .prim (.bool b)), (y, va), (z, vb)] [] vb [] := by
  subst hb; exact pick hx hy hz
end W
theorem AOps.sub {P : Program} {nt : Nat} {ops : Array Oper} {Q : Exit → St → Prop} {rest : List Oper} {T : List (Nat × AV)} {S S' : List Slot} (hS : S'.Sublist S) (h : AOps ro P nt ops Q rest ⟨T, S'⟩) : AOps ro P nt ops Q rest ⟨T, S⟩ := fun m0 a w hr => h m0 a w (hr.sub hS)
section
variable {P : Program} {ty t t2 : TypeId} {pos : String} {after : Array Edge} {dst : Option Tmp} {g : Option (Nat × Bool)} {x y z : Operand} {f n : Nat} {ar : Array (Nat × Operand)} {c : Option (List Bool)} {T : List (Nat × AV)} {S : List Slot} {xs : List (Operand × AV)} {rS wS : List (Nat × Slot)} {v : AV}
theorem Stp.g_move (k : Stp c P ⟨dst, .move x, ty, pos, after, g⟩ T S xs rS v wS) : Stp c P ⟨dst, .move x, ty, pos, after, g⟩ T S xs rS v wS := k
theorem Stp.g_assign (k : Stp c P ⟨dst, .assign x, ty, pos, after, g⟩ T S xs rS v wS) : Stp c P ⟨dst, .assign x, ty, pos, after, g⟩ T S xs rS v wS := k
theorem Stp.g_load (k : Stp c P ⟨dst, .load t x, ty, pos, after, g⟩ T S xs rS v wS) : Stp c P ⟨dst, .load t x, ty, pos, after, g⟩ T S xs rS v wS := k
theorem Stp.g_store (k : Stp c P ⟨dst, .store t x y, ty, pos, after, g⟩ T S xs rS v wS) : Stp c P ⟨dst, .store t x y, ty, pos, after, g⟩ T S xs rS v wS := k
theorem Stp.g_fieldAddr (k : Stp c P ⟨dst, .fieldAddr t x f, ty, pos, after, g⟩ T S xs rS v wS) : Stp c P ⟨dst, .fieldAddr t x f, ty, pos, after, g⟩ T S xs rS v wS := k
theorem Stp.g_field (k : Stp c P ⟨dst, .field t x f, ty, pos, after, g⟩ T S xs rS v wS) : Stp c P ⟨dst, .field t x f, ty, pos, after, g⟩ T S xs rS v wS := k
theorem Stp.g_indexAddr (k : Stp c P ⟨dst, .indexAddr t x y, ty, pos, after, g⟩ T S xs rS v wS) : Stp c P ⟨dst, .indexAddr t x y, ty, pos, after, g⟩ T S xs rS v wS := k
theorem Stp.g_index (k : Stp c P ⟨dst, .index t x y, ty, pos, after, g⟩ T S xs rS v wS) : Stp c P ⟨dst, .index t x y, ty, pos, after, g⟩ T S xs rS v wS := k
theorem Stp.g_alloc (k : Stp c P ⟨dst, .alloc t, ty, pos, after, g⟩ T S xs rS v wS) : Stp c P ⟨dst, .alloc t, ty, pos, after, g⟩ T S xs rS v wS := k
theorem Stp.g_box (k : Stp c P ⟨dst, .box t x, ty, pos, after, g⟩ T S xs rS v wS) : Stp c P ⟨dst, .box t x, ty, pos, after, g⟩ T S xs rS v wS := k
theorem Stp.g_bin {bo : BinOp} (k : Stp c P ⟨dst, .binOp bo t x y t2, ty, pos, after, g⟩ T S xs rS v wS) : Stp c P ⟨dst, .binOp bo t x y t2, ty, pos, after, g⟩ T S xs rS v wS := k
theorem Stp.g_un {uo : UnOp} (k : Stp c P ⟨dst, .unOp uo t x, ty, pos, after, g⟩ T S xs rS v wS) : Stp c P ⟨dst, .unOp uo t x, ty, pos, after, g⟩ T S xs rS v wS := k
theorem Stp.g_call {ci} (k : Stp c P ⟨dst, .call ci, ty, pos, after, g⟩ T S xs rS v wS) : Stp c P ⟨dst, .call ci, ty, pos, after, g⟩ T S xs rS v wS := k
theorem Stp.g_pick (k : Stp c P ⟨dst, .pick x y z, ty, pos, after, g⟩ T S xs rS v wS) : Stp c P ⟨dst, .pick x y z, ty, pos, after, g⟩ T S xs rS v wS := k
theorem Stp.g_extract (k : Stp c P ⟨dst, .extract x n, ty, pos, after, g⟩ T S xs rS v wS) : Stp c P ⟨dst, .extract x n, ty, pos, after, g⟩ T S xs rS v wS := k
theorem Stp.g_build (k : Stp c P ⟨dst, .build t ar, ty, pos, after, g⟩ T S xs rS v wS) : Stp c P ⟨dst, .build t ar, ty, pos, after, g⟩ T S xs rS v wS := k
theorem Stp.g_buildSlice (k : Stp c P ⟨dst, .buildSlice t n ar, ty, pos, after, g⟩ T S xs rS v wS) : Stp c P ⟨dst, .buildSlice t n ar, ty, pos, after, g⟩ T S xs rS v wS := k
theorem Stp.g_nilCheck (k : Stp c P ⟨dst, .nilCheck x, ty, pos, after, g⟩ T S xs rS v wS) : Stp c P ⟨dst, .nilCheck x, ty, pos, after, g⟩ T S xs rS v wS := k
theorem Stp.g_makeFunc {fu : Fn} {fi ca : Array Operand} (k : Stp c P ⟨dst, .makeFunc fu fi ca, ty, pos, after, g⟩ T S xs rS v wS) : Stp c P ⟨dst, .makeFunc fu fi ca, ty, pos, after, g⟩ T S xs rS v wS := k
end
theorem Rd.q1 {cs : List Bool} {T : List (Nat × AV)} {x : Operand} {w v : AV} (h : ev T x = some w := by rfl) (k : Strips cs w v := by first | with_reducible exact .a1 | with_reducible exact .refl | exact .refl) : Rd (some cs) T x v := .q h k
theorem Rd.q2 {cs : List Bool} {T : List (Nat × AV)} {x : Operand} {w v : AV} (h : ev T x = some w := by rfl) (k : Strips cs w v := by first | with_reducible exact .b12 | with_reducible exact .b1 | with_reducible exact .b2 | with_reducible exact .refl | exact .refl) : Rd (some cs) T x v := .q h k
theorem Rd.q3 {cs : List Bool} {T : List (Nat × AV)} {x : Operand} {w v : AV} (h : ev T x = some w := by rfl) (k : Strips cs w v := by first | with_reducible exact .refl | exact .refl | exact .step (by simp) .refl | exact .step (by simp) (.step (by simp) .refl) | exact .step (by simp) (.step (by simp) (.step (by simp) .refl))) : Rd (some cs) T x v := .q h k
theorem At.f {S : List Slot} {p : Nat} {e : Slot} (h : At S p e := by (repeat (first | exact .here | apply At.next))) : At S p e := h
theorem Lk.f {T T' : List (Nat × AV)} (h : Looks T T' := by (repeat (first | exact .nil | refine .cons (by first | rfl | assumption) ?_))) : Looks T T' := h
theorem Sub.f {S S' : List Slot} (h : S'.Sublist S := by (repeat (first | exact List.Sublist.refl _ | exact List.Sublist.slnil | apply List.Sublist.cons_cons | apply List.Sublist.cons))) : S'.Sublist S := h
section
variable {P : Program} {ty : TypeId} {pos : String} {after : Array Edge} {dst : Option Tmp} {g : Option (Nat × Bool)} {op : Op} {c : Option (List Bool)} {T : List (Nat × AV)} {S : List Slot} {xs : List (Operand × AV)} {rS wS : List (Nat × Slot)} {v : AV}
theorem Stp.f0 (h : Stp c P ⟨dst, op, ty, pos, after, g⟩ T S xs rS v wS := by (first
      | (apply Stp.g_move; first | exact W.move rfl)
      | (apply Stp.g_assign; first | exact W.assign rfl)
      | (apply Stp.g_load; first | exact W.loadFW rfl (by exact rfl) | exact W.loadW rfl (by exact At.f) (by first | exact rfl | assumption | exact map_at _ (by first | assumption | omega) | exact map_at _ (by (try simp); omega)) (by exact rfl) | exact W.loadF rfl (by exact rfl) | exact W.load rfl (by exact At.f) (by first | exact rfl | assumption | exact map_at _ (by first | assumption | omega) | exact map_at _ (by (try simp); omega)) (by exact rfl))
      | (apply Stp.g_fieldAddr; first | exact W.fieldF rfl (by exact rfl) | exact W.fieldA rfl (by exact At.f) (by first | exact Nat.zero_lt_one | assumption | decide | omega | ((try simp); omega) | (simp; done)))
      | (apply Stp.g_field; first | exact W.field rfl (by exact rfl))
      | (apply Stp.g_bin; first | exact W.lss rfl rfl | exact W.leq rfl rfl | exact W.gtr rfl rfl | exact W.geq rfl rfl | exact W.eqI rfl rfl | exact W.neI rfl rfl | exact W.eqS rfl rfl | exact W.neS rfl rfl | exact W.add rfl rfl ⟨by omega, by omega⟩ | exact W.sub rfl rfl ⟨by omega, by omega⟩)
      | (apply Stp.g_un; first | exact W.not rfl)
      | (apply Stp.g_indexAddr; first | exact W.idxL rfl rfl rfl (by first | exact rfl | assumption | exact map_at _ (by first | assumption | omega) | exact map_at _ (by (try simp); omega)) | exact W.idx rfl rfl (by exact At.f) rfl (by first | exact Nat.zero_lt_one | assumption | decide | omega | ((try simp); omega) | (simp; done)) (Nat.zero_add _))
      | (apply Stp.g_index; first | exact W.idxStr rfl rfl rfl (by assumption))
      | (apply Stp.g_call; first | exact W.lenL rfl | exact W.lenS rfl | exact W.lenN rfl | exact W.lenStr rfl | exact W.min2 rfl rfl | exact W.max2 rfl rfl)
      | (apply Stp.g_nilCheck; first | exact W.nilF rfl | exact W.nilA rfl (by exact At.f) (by first | exact Nat.zero_lt_one | assumption | decide | omega | ((try simp); omega) | (simp; done)))
      | (apply Stp.g_extract; first | exact W.extract rfl rfl)
      | (apply Stp.g_build; first | exact W.build0  (by first | exact fill_nrm (by dsimp only [fillC, putC, offC, over, AV.cells, List.map]; try exact rfl) (by exact rfl) | exact rfl) | exact W.build1 rfl (by first | exact fill_nrm (by dsimp only [fillC, putC, offC, over, AV.cells, List.map]; try exact rfl) (by exact rfl) | exact rfl) | exact W.build2 rfl rfl (by first | exact fill_nrm (by dsimp only [fillC, putC, offC, over, AV.cells, List.map]; try exact rfl) (by exact rfl) | exact rfl) | exact W.build3 rfl rfl rfl (by first | exact fill_nrm (by dsimp only [fillC, putC, offC, over, AV.cells, List.map]; try exact rfl) (by exact rfl) | exact rfl) | exact W.build4 rfl rfl rfl rfl (by first | exact fill_nrm (by dsimp only [fillC, putC, offC, over, AV.cells, List.map]; try exact rfl) (by exact rfl) | exact rfl) | exact W.build5 rfl rfl rfl rfl rfl (by first | exact fill_nrm (by dsimp only [fillC, putC, offC, over, AV.cells, List.map]; try exact rfl) (by exact rfl) | exact rfl) | exact W.build6 rfl rfl rfl rfl rfl rfl (by first | exact fill_nrm (by dsimp only [fillC, putC, offC, over, AV.cells, List.map]; try exact rfl) (by exact rfl) | exact rfl) | exact W.build7 rfl rfl rfl rfl rfl rfl rfl (by first | exact fill_nrm (by dsimp only [fillC, putC, offC, over, AV.cells, List.map]; try exact rfl) (by exact rfl) | exact rfl) | exact W.build8 rfl rfl rfl rfl rfl rfl rfl rfl (by first | exact fill_nrm (by dsimp only [fillC, putC, offC, over, AV.cells, List.map]; try exact rfl) (by exact rfl) | exact rfl))
      | (apply Stp.g_buildSlice; first | exact W.litF0  (by exact rfl) (by first | exact .inl rfl | exact .inr rfl) (by decide) (by decide) (by exact rfl) | exact W.litF1 rfl (by exact rfl) (by first | exact .inl rfl | exact .inr rfl) (by decide) (by decide) (by exact rfl) | exact W.litF2 rfl rfl (by exact rfl) (by first | exact .inl rfl | exact .inr rfl) (by decide) (by decide) (by exact rfl) | exact W.litF3 rfl rfl rfl (by exact rfl) (by first | exact .inl rfl | exact .inr rfl) (by decide) (by decide) (by exact rfl) | exact W.litF4 rfl rfl rfl rfl (by exact rfl) (by first | exact .inl rfl | exact .inr rfl) (by decide) (by decide) (by exact rfl) | exact W.litF5 rfl rfl rfl rfl rfl (by exact rfl) (by first | exact .inl rfl | exact .inr rfl) (by decide) (by decide) (by exact rfl) | exact W.litF6 rfl rfl rfl rfl rfl rfl (by exact rfl) (by first | exact .inl rfl | exact .inr rfl) (by decide) (by decide) (by exact rfl) | exact W.litF7 rfl rfl rfl rfl rfl rfl rfl (by exact rfl) (by first | exact .inl rfl | exact .inr rfl) (by decide) (by decide) (by exact rfl) | exact W.litF8 rfl rfl rfl rfl rfl rfl rfl rfl (by exact rfl) (by first | exact .inl rfl | exact .inr rfl) (by decide) (by decide) (by exact rfl))
      | (apply Stp.g_makeFunc; first | exact W.func0 | exact W.func1 rfl rfl | exact W.func2 rfl rfl rfl | exact W.func3 rfl rfl rfl rfl | exact W.func4 rfl rfl rfl rfl rfl | exact W.func5 rfl rfl rfl rfl rfl rfl | exact W.func6 rfl rfl rfl rfl rfl rfl rfl | exact W.func7 rfl rfl rfl rfl rfl rfl rfl rfl)
      | (apply Stp.g_pick; first | exact W.pickF rfl rfl (by first | rfl | assumption) | exact W.pickT rfl rfl (by first | rfl | assumption) | exact W.orQ rfl rfl rfl | exact W.andQ rfl rfl rfl | exact W.pickB rfl rfl rfl | exact W.pickP rfl rfl rfl))) : Stp c P ⟨dst, op, ty, pos, after, g⟩ T S xs rS v wS := h
theorem Stp.f1 (h : Stp c P ⟨dst, op, ty, pos, after, g⟩ T S xs rS v wS := by (first
      | (apply Stp.g_move; first | exact W.move Rd.q1)
      | (apply Stp.g_assign; first | exact W.assign Rd.q1)
      | (apply Stp.g_load; first | exact W.loadFW Rd.q1 (by exact rfl) | exact W.loadW Rd.q1 (by exact At.f) (by first | exact rfl | assumption | exact map_at _ (by first | assumption | omega) | exact map_at _ (by (try simp); omega)) (by exact rfl) | exact W.loadF Rd.q1 (by exact rfl) | exact W.load Rd.q1 (by exact At.f) (by first | exact rfl | assumption | exact map_at _ (by first | assumption | omega) | exact map_at _ (by (try simp); omega)) (by exact rfl))
      | (apply Stp.g_fieldAddr; first | exact W.fieldF Rd.q1 (by exact rfl) | exact W.fieldA Rd.q1 (by exact At.f) (by first | exact Nat.zero_lt_one | assumption | decide | omega | ((try simp); omega) | (simp; done)))
      | (apply Stp.g_field; first | exact W.field Rd.q1 (by exact rfl))
      | (apply Stp.g_bin; first | exact W.lss Rd.q1 Rd.q1 | exact W.leq Rd.q1 Rd.q1 | exact W.gtr Rd.q1 Rd.q1 | exact W.geq Rd.q1 Rd.q1 | exact W.eqI Rd.q1 Rd.q1 | exact W.neI Rd.q1 Rd.q1 | exact W.eqS Rd.q1 Rd.q1 | exact W.neS Rd.q1 Rd.q1 | exact W.add Rd.q1 Rd.q1 ⟨by omega, by omega⟩ | exact W.sub Rd.q1 Rd.q1 ⟨by omega, by omega⟩)
      | (apply Stp.g_un; first | exact W.not Rd.q1)
      | (apply Stp.g_indexAddr; first | exact W.idxL Rd.q1 Rd.q1 rfl (by first | exact rfl | assumption | exact map_at _ (by first | assumption | omega) | exact map_at _ (by (try simp); omega)) | exact W.idx Rd.q1 Rd.q1 (by exact At.f) rfl (by first | exact Nat.zero_lt_one | assumption | decide | omega | ((try simp); omega) | (simp; done)) (Nat.zero_add _))
      | (apply Stp.g_index; first | exact W.idxStr Rd.q1 Rd.q1 rfl (by assumption))
      | (apply Stp.g_call; first | exact W.lenL Rd.q1 | exact W.lenS Rd.q1 | exact W.lenN Rd.q1 | exact W.lenStr Rd.q1 | exact W.min2 Rd.q1 Rd.q1 | exact W.max2 Rd.q1 Rd.q1)
      | (apply Stp.g_nilCheck; first | exact W.nilF Rd.q1 | exact W.nilA Rd.q1 (by exact At.f) (by first | exact Nat.zero_lt_one | assumption | decide | omega | ((try simp); omega) | (simp; done)))
      | (apply Stp.g_extract; first | exact W.extract Rd.q1 rfl)
      | (apply Stp.g_build; first | exact W.build0  (by first | exact fill_nrm (by dsimp only [fillC, putC, offC, over, AV.cells, List.map]; try exact rfl) (by exact rfl) | exact rfl) | exact W.build1 Rd.q1 (by first | exact fill_nrm (by dsimp only [fillC, putC, offC, over, AV.cells, List.map]; try exact rfl) (by exact rfl) | exact rfl) | exact W.build2 Rd.q1 Rd.q1 (by first | exact fill_nrm (by dsimp only [fillC, putC, offC, over, AV.cells, List.map]; try exact rfl) (by exact rfl) | exact rfl) | exact W.build3 Rd.q1 Rd.q1 Rd.q1 (by first | exact fill_nrm (by dsimp only [fillC, putC, offC, over, AV.cells, List.map]; try exact rfl) (by exact rfl) | exact rfl) | exact W.build4 Rd.q1 Rd.q1 Rd.q1 Rd.q1 (by first | exact fill_nrm (by dsimp only [fillC, putC, offC, over, AV.cells, List.map]; try exact rfl) (by exact rfl) | exact rfl) | exact W.build5 Rd.q1 Rd.q1 Rd.q1 Rd.q1 Rd.q1 (by first | exact fill_nrm (by dsimp only [fillC, putC, offC, over, AV.cells, List.map]; try exact rfl) (by exact rfl) | exact rfl) | exact W.build6 Rd.q1 Rd.q1 Rd.q1 Rd.q1 Rd.q1 Rd.q1 (by first | exact fill_nrm (by dsimp only [fillC, putC, offC, over, AV.cells, List.map]; try exact rfl) (by exact rfl) | exact rfl) | exact W.build7 Rd.q1 Rd.q1 Rd.q1 Rd.q1 Rd.q1 Rd.q1 Rd.q1 (by first | exact fill_nrm (by dsimp only [fillC, putC, offC, over, AV.cells, List.map]; try exact rfl) (by exact rfl) | exact rfl) | exact W.build8 Rd.q1 Rd.q1 Rd.q1 Rd.q1 Rd.q1 Rd.q1 Rd.q1 Rd.q1 (by first | exact fill_nrm (by dsimp only [fillC, putC, offC, over, AV.cells, List.map]; try exact rfl) (by exact rfl) | exact rfl))
      | (apply Stp.g_buildSlice; first | exact W.litF0  (by exact rfl) (by first | exact .inl rfl | exact .inr rfl) (by decide) (by decide) (by exact rfl) | exact W.litF1 Rd.q1 (by exact rfl) (by first | exact .inl rfl | exact .inr rfl) (by decide) (by decide) (by exact rfl) | exact W.litF2 Rd.q1 Rd.q1 (by exact rfl) (by first | exact .inl rfl | exact .inr rfl) (by decide) (by decide) (by exact rfl) | exact W.litF3 Rd.q1 Rd.q1 Rd.q1 (by exact rfl) (by first | exact .inl rfl | exact .inr rfl) (by decide) (by decide) (by exact rfl) | exact W.litF4 Rd.q1 Rd.q1 Rd.q1 Rd.q1 (by exact rfl) (by first | exact .inl rfl | exact .inr rfl) (by decide) (by decide) (by exact rfl) | exact W.litF5 Rd.q1 Rd.q1 Rd.q1 Rd.q1 Rd.q1 (by exact rfl) (by first | exact .inl rfl | exact .inr rfl) (by decide) (by decide) (by exact rfl) | exact W.litF6 Rd.q1 Rd.q1 Rd.q1 Rd.q1 Rd.q1 Rd.q1 (by exact rfl) (by first | exact .inl rfl | exact .inr rfl) (by decide) (by decide) (by exact rfl) | exact W.litF7 Rd.q1 Rd.q1 Rd.q1 Rd.q1 Rd.q1 Rd.q1 Rd.q1 (by exact rfl) (by first | exact .inl rfl | exact .inr rfl) (by decide) (by decide) (by exact rfl) | exact W.litF8 Rd.q1 Rd.q1 Rd.q1 Rd.q1 Rd.q1 Rd.q1 Rd.q1 Rd.q1 (by exact rfl) (by first | exact .inl rfl | exact .inr rfl) (by decide) (by decide) (by exact rfl))
      | (apply Stp.g_makeFunc; first | exact W.func0 | exact W.func1 Rd.q1 rfl | exact W.func2 Rd.q1 Rd.q1 rfl | exact W.func3 Rd.q1 Rd.q1 Rd.q1 rfl | exact W.func4 Rd.q1 Rd.q1 Rd.q1 Rd.q1 rfl | exact W.func5 Rd.q1 Rd.q1 Rd.q1 Rd.q1 Rd.q1 rfl | exact W.func6 Rd.q1 Rd.q1 Rd.q1 Rd.q1 Rd.q1 Rd.q1 rfl | exact W.func7 Rd.q1 Rd.q1 Rd.q1 Rd.q1 Rd.q1 Rd.q1 Rd.q1 rfl)
      | (apply Stp.g_pick; first | exact W.pickF Rd.q1 Rd.q1 (by first | rfl | assumption) | exact W.pickT Rd.q1 Rd.q1 (by first | rfl | assumption) | exact W.orQ Rd.q1 Rd.q1 Rd.q1 | exact W.andQ Rd.q1 Rd.q1 Rd.q1 | exact W.pickB Rd.q1 Rd.q1 Rd.q1 | exact W.pickP Rd.q1 Rd.q1 Rd.q1))) : Stp c P ⟨dst, op, ty, pos, after, g⟩ T S xs rS v wS := h
theorem Stp.f2 (h : Stp c P ⟨dst, op, ty, pos, after, g⟩ T S xs rS v wS := by (first
      | (apply Stp.g_move; first | exact W.move Rd.q2)
      | (apply Stp.g_assign; first | exact W.assign Rd.q2)
      | (apply Stp.g_load; first | exact W.loadFW Rd.q2 (by exact rfl) | exact W.loadW Rd.q2 (by exact At.f) (by first | exact rfl | assumption | exact map_at _ (by first | assumption | omega) | exact map_at _ (by (try simp); omega)) (by exact rfl) | exact W.loadF Rd.q2 (by exact rfl) | exact W.load Rd.q2 (by exact At.f) (by first | exact rfl | assumption | exact map_at _ (by first | assumption | omega) | exact map_at _ (by (try simp); omega)) (by exact rfl))
      | (apply Stp.g_fieldAddr; first | exact W.fieldF Rd.q2 (by exact rfl) | exact W.fieldA Rd.q2 (by exact At.f) (by first | exact Nat.zero_lt_one | assumption | decide | omega | ((try simp); omega) | (simp; done)))
      | (apply Stp.g_field; first | exact W.field Rd.q2 (by exact rfl))
      | (apply Stp.g_bin; first | exact W.lss Rd.q2 Rd.q2 | exact W.leq Rd.q2 Rd.q2 | exact W.gtr Rd.q2 Rd.q2 | exact W.geq Rd.q2 Rd.q2 | exact W.eqI Rd.q2 Rd.q2 | exact W.neI Rd.q2 Rd.q2 | exact W.eqS Rd.q2 Rd.q2 | exact W.neS Rd.q2 Rd.q2 | exact W.add Rd.q2 Rd.q2 ⟨by omega, by omega⟩ | exact W.sub Rd.q2 Rd.q2 ⟨by omega, by omega⟩)
      | (apply Stp.g_un; first | exact W.not Rd.q2)
      | (apply Stp.g_indexAddr; first | exact W.idxL Rd.q2 Rd.q2 rfl (by first | exact rfl | assumption | exact map_at _ (by first | assumption | omega) | exact map_at _ (by (try simp); omega)) | exact W.idx Rd.q2 Rd.q2 (by exact At.f) rfl (by first | exact Nat.zero_lt_one | assumption | decide | omega | ((try simp); omega) | (simp; done)) (Nat.zero_add _))
      | (apply Stp.g_index; first | exact W.idxStr Rd.q2 Rd.q2 rfl (by assumption))
      | (apply Stp.g_call; first | exact W.lenL Rd.q2 | exact W.lenS Rd.q2 | exact W.lenN Rd.q2 | exact W.lenStr Rd.q2 | exact W.min2 Rd.q2 Rd.q2 | exact W.max2 Rd.q2 Rd.q2)
      | (apply Stp.g_nilCheck; first | exact W.nilF Rd.q2 | exact W.nilA Rd.q2 (by exact At.f) (by first | exact Nat.zero_lt_one | assumption | decide | omega | ((try simp); omega) | (simp; done)))
      | (apply Stp.g_extract; first | exact W.extract Rd.q2 rfl)
      | (apply Stp.g_build; first | exact W.build0  (by first | exact fill_nrm (by dsimp only [fillC, putC, offC, over, AV.cells, List.map]; try exact rfl) (by exact rfl) | exact rfl) | exact W.build1 Rd.q2 (by first | exact fill_nrm (by dsimp only [fillC, putC, offC, over, AV.cells, List.map]; try exact rfl) (by exact rfl) | exact rfl) | exact W.build2 Rd.q2 Rd.q2 (by first | exact fill_nrm (by dsimp only [fillC, putC, offC, over, AV.cells, List.map]; try exact rfl) (by exact rfl) | exact rfl) | exact W.build3 Rd.q2 Rd.q2 Rd.q2 (by first | exact fill_nrm (by dsimp only [fillC, putC, offC, over, AV.cells, List.map]; try exact rfl) (by exact rfl) | exact rfl) | exact W.build4 Rd.q2 Rd.q2 Rd.q2 Rd.q2 (by first | exact fill_nrm (by dsimp only [fillC, putC, offC, over, AV.cells, List.map]; try exact rfl) (by exact rfl) | exact rfl) | exact W.build5 Rd.q2 Rd.q2 Rd.q2 Rd.q2 Rd.q2 (by first | exact fill_nrm (by dsimp only [fillC, putC, offC, over, AV.cells, List.map]; try exact rfl) (by exact rfl) | exact rfl) | exact W.build6 Rd.q2 Rd.q2 Rd.q2 Rd.q2 Rd.q2 Rd.q2 (by first | exact fill_nrm (by dsimp only [fillC, putC, offC, over, AV.cells, List.map]; try exact rfl) (by exact rfl) | exact rfl) | exact W.build7 Rd.q2 Rd.q2 Rd.q2 Rd.q2 Rd.q2 Rd.q2 Rd.q2 (by first | exact fill_nrm (by dsimp only [fillC, putC, offC, over, AV.cells, List.map]; try exact rfl) (by exact rfl) | exact rfl) | exact W.build8 Rd.q2 Rd.q2 Rd.q2 Rd.q2 Rd.q2 Rd.q2 Rd.q2 Rd.q2 (by first | exact fill_nrm (by dsimp only [fillC, putC, offC, over, AV.cells, List.map]; try exact rfl) (by exact rfl) | exact rfl))
      | (apply Stp.g_buildSlice; first | exact W.litF0  (by exact rfl) (by first | exact .inl rfl | exact .inr rfl) (by decide) (by decide) (by exact rfl) | exact W.litF1 Rd.q2 (by exact rfl) (by first | exact .inl rfl | exact .inr rfl) (by decide) (by decide) (by exact rfl) | exact W.litF2 Rd.q2 Rd.q2 (by exact rfl) (by first | exact .inl rfl | exact .inr rfl) (by decide) (by decide) (by exact rfl) | exact W.litF3 Rd.q2 Rd.q2 Rd.q2 (by exact rfl) (by first | exact .inl rfl | exact .inr rfl) (by decide) (by decide) (by exact rfl) | exact W.litF4 Rd.q2 Rd.q2 Rd.q2 Rd.q2 (by exact rfl) (by first | exact .inl rfl | exact .inr rfl) (by decide) (by decide) (by exact rfl) | exact W.litF5 Rd.q2 Rd.q2 Rd.q2 Rd.q2 Rd.q2 (by exact rfl) (by first | exact .inl rfl | exact .inr rfl) (by decide) (by decide) (by exact rfl) | exact W.litF6 Rd.q2 Rd.q2 Rd.q2 Rd.q2 Rd.q2 Rd.q2 (by exact rfl) (by first | exact .inl rfl | exact .inr rfl) (by decide) (by decide) (by exact rfl) | exact W.litF7 Rd.q2 Rd.q2 Rd.q2 Rd.q2 Rd.q2 Rd.q2 Rd.q2 (by exact rfl) (by first | exact .inl rfl | exact .inr rfl) (by decide) (by decide) (by exact rfl) | exact W.litF8 Rd.q2 Rd.q2 Rd.q2 Rd.q2 Rd.q2 Rd.q2 Rd.q2 Rd.q2 (by exact rfl) (by first | exact .inl rfl | exact .inr rfl) (by decide) (by decide) (by exact rfl))
      | (apply Stp.g_makeFunc; first | exact W.func0 | exact W.func1 Rd.q2 rfl | exact W.func2 Rd.q2 Rd.q2 rfl | exact W.func3 Rd.q2 Rd.q2 Rd.q2 rfl | exact W.func4 Rd.q2 Rd.q2 Rd.q2 Rd.q2 rfl | exact W.func5 Rd.q2 Rd.q2 Rd.q2 Rd.q2 Rd.q2 rfl | exact W.func6 Rd.q2 Rd.q2 Rd.q2 Rd.q2 Rd.q2 Rd.q2 rfl | exact W.func7 Rd.q2 Rd.q2 Rd.q2 Rd.q2 Rd.q2 Rd.q2 Rd.q2 rfl)
      | (apply Stp.g_pick; first | exact W.pickF Rd.q2 Rd.q2 (by first | rfl | assumption) | exact W.pickT Rd.q2 Rd.q2 (by first | rfl | assumption) | exact W.orQ Rd.q2 Rd.q2 Rd.q2 | exact W.andQ Rd.q2 Rd.q2 Rd.q2 | exact W.pickB Rd.q2 Rd.q2 Rd.q2 | exact W.pickP Rd.q2 Rd.q2 Rd.q2))) : Stp c P ⟨dst, op, ty, pos, after, g⟩ T S xs rS v wS := h
theorem Stp.f3 (h : Stp c P ⟨dst, op, ty, pos, after, g⟩ T S xs rS v wS := by (first
      | (apply Stp.g_move; first | exact W.move Rd.q3)
      | (apply Stp.g_assign; first | exact W.assign Rd.q3)
      | (apply Stp.g_load; first | exact W.loadFW Rd.q3 (by exact rfl) | exact W.loadW Rd.q3 (by exact At.f) (by first | exact rfl | assumption | exact map_at _ (by first | assumption | omega) | exact map_at _ (by (try simp); omega)) (by exact rfl) | exact W.loadF Rd.q3 (by exact rfl) | exact W.load Rd.q3 (by exact At.f) (by first | exact rfl | assumption | exact map_at _ (by first | assumption | omega) | exact map_at _ (by (try simp); omega)) (by exact rfl))
      | (apply Stp.g_fieldAddr; first | exact W.fieldF Rd.q3 (by exact rfl) | exact W.fieldA Rd.q3 (by exact At.f) (by first | exact Nat.zero_lt_one | assumption | decide | omega | ((try simp); omega) | (simp; done)))
      | (apply Stp.g_field; first | exact W.field Rd.q3 (by exact rfl))
      | (apply Stp.g_bin; first | exact W.lss Rd.q3 Rd.q3 | exact W.leq Rd.q3 Rd.q3 | exact W.gtr Rd.q3 Rd.q3 | exact W.geq Rd.q3 Rd.q3 | exact W.eqI Rd.q3 Rd.q3 | exact W.neI Rd.q3 Rd.q3 | exact W.eqS Rd.q3 Rd.q3 | exact W.neS Rd.q3 Rd.q3 | exact W.add Rd.q3 Rd.q3 ⟨by omega, by omega⟩ | exact W.sub Rd.q3 Rd.q3 ⟨by omega, by omega⟩)
      | (apply Stp.g_un; first | exact W.not Rd.q3)
      | (apply Stp.g_indexAddr; first | exact W.idxL Rd.q3 Rd.q3 rfl (by first | exact rfl | assumption | exact map_at _ (by first | assumption | omega) | exact map_at _ (by (try simp); omega)) | exact W.idx Rd.q3 Rd.q3 (by exact At.f) rfl (by first | exact Nat.zero_lt_one | assumption | decide | omega | ((try simp); omega) | (simp; done)) (Nat.zero_add _))
      | (apply Stp.g_index; first | exact W.idxStr Rd.q3 Rd.q3 rfl (by assumption))
      | (apply Stp.g_call; first | exact W.lenL Rd.q3 | exact W.lenS Rd.q3 | exact W.lenN Rd.q3 | exact W.lenStr Rd.q3 | exact W.min2 Rd.q3 Rd.q3 | exact W.max2 Rd.q3 Rd.q3)
      | (apply Stp.g_nilCheck; first | exact W.nilF Rd.q3 | exact W.nilA Rd.q3 (by exact At.f) (by first | exact Nat.zero_lt_one | assumption | decide | omega | ((try simp); omega) | (simp; done)))
      | (apply Stp.g_extract; first | exact W.extract Rd.q3 rfl)
      | (apply Stp.g_build; first | exact W.build0  (by first | exact fill_nrm (by dsimp only [fillC, putC, offC, over, AV.cells, List.map]; try exact rfl) (by exact rfl) | exact rfl) | exact W.build1 Rd.q3 (by first | exact fill_nrm (by dsimp only [fillC, putC, offC, over, AV.cells, List.map]; try exact rfl) (by exact rfl) | exact rfl) | exact W.build2 Rd.q3 Rd.q3 (by first | exact fill_nrm (by dsimp only [fillC, putC, offC, over, AV.cells, List.map]; try exact rfl) (by exact rfl) | exact rfl) | exact W.build3 Rd.q3 Rd.q3 Rd.q3 (by first | exact fill_nrm (by dsimp only [fillC, putC, offC, over, AV.cells, List.map]; try exact rfl) (by exact rfl) | exact rfl) | exact W.build4 Rd.q3 Rd.q3 Rd.q3 Rd.q3 (by first | exact fill_nrm (by dsimp only [fillC, putC, offC, over, AV.cells, List.map]; try exact rfl) (by exact rfl) | exact rfl) | exact W.build5 Rd.q3 Rd.q3 Rd.q3 Rd.q3 Rd.q3 (by first | exact fill_nrm (by dsimp only [fillC, putC, offC, over, AV.cells, List.map]; try exact rfl) (by exact rfl) | exact rfl) | exact W.build6 Rd.q3 Rd.q3 Rd.q3 Rd.q3 Rd.q3 Rd.q3 (by first | exact fill_nrm (by dsimp only [fillC, putC, offC, over, AV.cells, List.map]; try exact rfl) (by exact rfl) | exact rfl) | exact W.build7 Rd.q3 Rd.q3 Rd.q3 Rd.q3 Rd.q3 Rd.q3 Rd.q3 (by first | exact fill_nrm (by dsimp only [fillC, putC, offC, over, AV.cells, List.map]; try exact rfl) (by exact rfl) | exact rfl) | exact W.build8 Rd.q3 Rd.q3 Rd.q3 Rd.q3 Rd.q3 Rd.q3 Rd.q3 Rd.q3 (by first | exact fill_nrm (by dsimp only [fillC, putC, offC, over, AV.cells, List.map]; try exact rfl) (by exact rfl) | exact rfl))
      | (apply Stp.g_buildSlice; first | exact W.litF0  (by exact rfl) (by first | exact .inl rfl | exact .inr rfl) (by decide) (by decide) (by exact rfl) | exact W.litF1 Rd.q3 (by exact rfl) (by first | exact .inl rfl | exact .inr rfl) (by decide) (by decide) (by exact rfl) | exact W.litF2 Rd.q3 Rd.q3 (by exact rfl) (by first | exact .inl rfl | exact .inr rfl) (by decide) (by decide) (by exact rfl) | exact W.litF3 Rd.q3 Rd.q3 Rd.q3 (by exact rfl) (by first | exact .inl rfl | exact .inr rfl) (by decide) (by decide) (by exact rfl) | exact W.litF4 Rd.q3 Rd.q3 Rd.q3 Rd.q3 (by exact rfl) (by first | exact .inl rfl | exact .inr rfl) (by decide) (by decide) (by exact rfl) | exact W.litF5 Rd.q3 Rd.q3 Rd.q3 Rd.q3 Rd.q3 (by exact rfl) (by first | exact .inl rfl | exact .inr rfl) (by decide) (by decide) (by exact rfl) | exact W.litF6 Rd.q3 Rd.q3 Rd.q3 Rd.q3 Rd.q3 Rd.q3 (by exact rfl) (by first | exact .inl rfl | exact .inr rfl) (by decide) (by decide) (by exact rfl) | exact W.litF7 Rd.q3 Rd.q3 Rd.q3 Rd.q3 Rd.q3 Rd.q3 Rd.q3 (by exact rfl) (by first | exact .inl rfl | exact .inr rfl) (by decide) (by decide) (by exact rfl) | exact W.litF8 Rd.q3 Rd.q3 Rd.q3 Rd.q3 Rd.q3 Rd.q3 Rd.q3 Rd.q3 (by exact rfl) (by first | exact .inl rfl | exact .inr rfl) (by decide) (by decide) (by exact rfl))
      | (apply Stp.g_makeFunc; first | exact W.func0 | exact W.func1 Rd.q3 rfl | exact W.func2 Rd.q3 Rd.q3 rfl | exact W.func3 Rd.q3 Rd.q3 Rd.q3 rfl | exact W.func4 Rd.q3 Rd.q3 Rd.q3 Rd.q3 rfl | exact W.func5 Rd.q3 Rd.q3 Rd.q3 Rd.q3 Rd.q3 rfl | exact W.func6 Rd.q3 Rd.q3 Rd.q3 Rd.q3 Rd.q3 Rd.q3 rfl | exact W.func7 Rd.q3 Rd.q3 Rd.q3 Rd.q3 Rd.q3 Rd.q3 Rd.q3 rfl)
      | (apply Stp.g_pick; first | exact W.pickF Rd.q3 Rd.q3 (by first | rfl | assumption) | exact W.pickT Rd.q3 Rd.q3 (by first | rfl | assumption) | exact W.orQ Rd.q3 Rd.q3 Rd.q3 | exact W.andQ Rd.q3 Rd.q3 Rd.q3 | exact W.pickB Rd.q3 Rd.q3 Rd.q3 | exact W.pickP Rd.q3 Rd.q3 Rd.q3))) : Stp c P ⟨dst, op, ty, pos, after, g⟩ T S xs rS v wS := h
theorem Stp.st (h : Stp c P ⟨dst, op, ty, pos, after, g⟩ T S xs rS v wS := by (apply Stp.g_store; exact W.storeN rfl rfl (by exact At.f) (by first | exact rfl | assumption | exact map_at _ (by first | assumption | omega) | exact map_at _ (by (try simp); omega)) (by exact rfl) (by first | exact set_nrm (by (dsimp only [putN, putC, over, AV.cells, List.set]); try exact rfl) (by exact rfl) | exact rfl))) : Stp c P ⟨dst, op, ty, pos, after, g⟩ T S xs rS v wS := h
end
section
variable {P : Program} {nt : Nat} {ops : Array Oper} {Q : Exit → St → Prop} {rest : List Oper} {T : List (Nat × AV)} {S : List Slot} {xs : List (Operand × AV)} {rS wS : List (Nat × Slot)} {v : AV} {op : Op} {ty : TypeId} {pos : String} {after : Array Edge} {dst : Option Tmp}
/-- A step that turns no object. -/
theorem AOps.go (k : AOps ro P nt ops Q rest ⟨putD T dst v, S⟩) (h : Stp none P ⟨dst, op, ty, pos, after, none⟩ T S xs rS v [] := by exact Stp.f0) (hd : dstOk dst nt = true := by rfl) : AOps ro P nt ops Q (⟨dst, op, ty, pos, after, none⟩ :: rest) ⟨T, S⟩ := AOps.p h hd k
/-- A store. -/
theorem AOps.goS (k : AOps ro P nt ops Q rest ⟨putD T dst v, setAll S wS⟩) (h : Stp none P ⟨dst, op, ty, pos, after, none⟩ T S xs rS v wS := by exact Stp.st) (hd : dstOk dst nt = true := by rfl) : AOps ro P nt ops Q (⟨dst, op, ty, pos, after, none⟩ :: rest) ⟨T, S⟩ := AOps.s h hd k
theorem AOps.goQ1 {g : Nat} {b b' : Bool} {t : Nat} (k : AOps ro P nt ops Q rest ⟨putD T dst (.opt (b' == b) v), S⟩) (ht : (ops[g]?).bind (·.dst) = some t := by rfl) (hv : look T t = some (.prim (.bool b')) := by rfl) (h : Stp (some [b' == b]) P ⟨dst, op, ty, pos, after, some (g, b)⟩ T S xs rS v [] := by exact Stp.f1) (hd : dstOk dst nt = true := by rfl) (hos : onceT xs = true := by exact rfl) : AOps ro P nt ops Q (⟨dst, op, ty, pos, after, some (g, b)⟩ :: rest) ⟨T, S⟩ := AOps.sQ1 h ht hv hd hos k
theorem AOps.goQ2 {c1 : Bool} {g : Nat} {b b' : Bool} {t : Nat} (k : AOps ro P nt ops Q rest ⟨putD T dst (.opt c1 (.opt (b' == b) v)), S⟩) (ht : (ops[g]?).bind (·.dst) = some t := by rfl) (hv : look T t = some (.opt c1 (.prim (.bool b'))) := by rfl) (h : Stp (some [c1, b' == b]) P ⟨dst, op, ty, pos, after, some (g, b)⟩ T S xs rS v [] := by exact Stp.f2) (hd : dstOk dst nt = true := by rfl) (hos : onceT xs = true := by exact rfl) : AOps ro P nt ops Q (⟨dst, op, ty, pos, after, some (g, b)⟩ :: rest) ⟨T, S⟩ := AOps.sQ2 h ht hv hd hos k
theorem AOps.goQ3 {c1 c2 : Bool} {g : Nat} {b b' : Bool} {t : Nat} (k : AOps ro P nt ops Q rest ⟨putD T dst (.opt c1 (.opt c2 (.opt (b' == b) v))), S⟩) (ht : (ops[g]?).bind (·.dst) = some t := by rfl) (hv : look T t = some (.opt c1 (.opt c2 (.prim (.bool b')))) := by rfl) (h : Stp (some [c1, c2, b' == b]) P ⟨dst, op, ty, pos, after, some (g, b)⟩ T S xs rS v [] := by exact Stp.f3) (hd : dstOk dst nt = true := by rfl) (hos : onceT xs = true := by exact rfl) : AOps ro P nt ops Q (⟨dst, op, ty, pos, after, some (g, b)⟩ :: rest) ⟨T, S⟩ := AOps.sQ3 h ht hv hd hos k
theorem AOps.goN {g : Nat} {b b' : Bool} {t : Nat} (k : AOps ro P nt ops Q rest ⟨putD T dst .dead, S⟩) (ht : (ops[g]?).bind (·.dst) = some t := by rfl) (hv : look T t = some (.prim (.bool b')) := by rfl) (hb : b' = !b := by first | rfl | assumption | (simp only [Bool.not_true, Bool.not_false]; assumption)) (hd : dstOk dst nt = true := by rfl) : AOps ro P nt ops Q (⟨dst, op, ty, pos, after, some (g, b)⟩ :: rest) ⟨T, S⟩ := AOps.sN ht hv hb hd k
theorem AOps.goB {t : TypeId} {x : Operand} {b : AV} (k : AOps ro P nt ops Q rest ⟨putD T dst (.fp b.cells), S⟩) (hx : Rd none T x v := by rfl) (hs : v.stor = true := by rfl) [hf : Frz v b] (hd : dstOk dst nt = true := by rfl) : AOps ro P nt ops Q (⟨dst, .box t x, ty, pos, after, none⟩ :: rest) ⟨T, S⟩ := AOps.p (W.boxF hx hs) hd k
theorem AOps.k2 {x0 : Operand} {v0 : AV} {x1 : Operand} {v1 : AV} {x : Operand} {f : FuncId} {cap : List AV} {ats : Array TypeId} {r r' : AV} (hx : Rd none T x (.fn f cap) := by rfl) (h0 : Rd none T x0 v0 := by rfl) (h1 : Rd none T x1 v1 := by rfl) (h : PS P f (v0 :: v1 :: cap) r) (k : AOps ro P nt ops Q rest ⟨putD T dst r', S⟩) [hf : Frz r r'] (hs : st1s cap = true := by first | rfl | assumption) (ht : noTup [(x0, v0), (x1, v1)] = true := by rfl) (hd : dstOk dst nt = true := by rfl) : AOps ro P nt ops Q (⟨dst, .call ⟨.value x, #[x0, x1], ats⟩, ty, pos, after, none⟩ :: rest) ⟨T, S⟩ := AOps.p (W.callC2 hx h0 h1 h hs ht hf.h) hd k
theorem AOps.c0  {f : FuncId} {ats : Array TypeId} {r r' : AV}  (h : PS P f [] r) (k : AOps ro P nt ops Q rest ⟨putD T dst r', S⟩) [hf : Frz r r'] (ht : noTup [] = true := by rfl) (hd : dstOk dst nt = true := by rfl) : AOps ro P nt ops Q (⟨dst, .call ⟨.value (.func f), #[], ats⟩, ty, pos, after, none⟩ :: rest) ⟨T, S⟩ := AOps.p (W.callF0  h ht hf.h) hd k
theorem AOps.c1 {x0 : Operand} {v0 : AV} {f : FuncId} {ats : Array TypeId} {r r' : AV} (h0 : Rd none T x0 v0 := by rfl) (h : PS P f [v0] r) (k : AOps ro P nt ops Q rest ⟨putD T dst r', S⟩) [hf : Frz r r'] (ht : noTup [(x0, v0)] = true := by rfl) (hd : dstOk dst nt = true := by rfl) : AOps ro P nt ops Q (⟨dst, .call ⟨.value (.func f), #[x0], ats⟩, ty, pos, after, none⟩ :: rest) ⟨T, S⟩ := AOps.p (W.callF1 h0 h ht hf.h) hd k
theorem AOps.c2 {x0 : Operand} {v0 : AV} {x1 : Operand} {v1 : AV} {f : FuncId} {ats : Array TypeId} {r r' : AV} (h0 : Rd none T x0 v0 := by rfl) (h1 : Rd none T x1 v1 := by rfl) (h : PS P f [v0, v1] r) (k : AOps ro P nt ops Q rest ⟨putD T dst r', S⟩) [hf : Frz r r'] (ht : noTup [(x0, v0), (x1, v1)] = true := by rfl) (hd : dstOk dst nt = true := by rfl) : AOps ro P nt ops Q (⟨dst, .call ⟨.value (.func f), #[x0, x1], ats⟩, ty, pos, after, none⟩ :: rest) ⟨T, S⟩ := AOps.p (W.callF2 h0 h1 h ht hf.h) hd k
theorem AOps.c3 {x0 : Operand} {v0 : AV} {x1 : Operand} {v1 : AV} {x2 : Operand} {v2 : AV} {f : FuncId} {ats : Array TypeId} {r r' : AV} (h0 : Rd none T x0 v0 := by rfl) (h1 : Rd none T x1 v1 := by rfl) (h2 : Rd none T x2 v2 := by rfl) (h : PS P f [v0, v1, v2] r) (k : AOps ro P nt ops Q rest ⟨putD T dst r', S⟩) [hf : Frz r r'] (ht : noTup [(x0, v0), (x1, v1), (x2, v2)] = true := by rfl) (hd : dstOk dst nt = true := by rfl) : AOps ro P nt ops Q (⟨dst, .call ⟨.value (.func f), #[x0, x1, x2], ats⟩, ty, pos, after, none⟩ :: rest) ⟨T, S⟩ := AOps.p (W.callF3 h0 h1 h2 h ht hf.h) hd k
theorem AOps.o1 {x0 : Operand} {v0 : AV} {f : FuncId} {ats : Array TypeId} {r r' : AV} {X p : Nat} {o o' : AO} (h0 : Rd none T x0 v0 := by rfl) (h : PO P f [v0] X o r o') (k : AOps ro P nt ops Q rest ⟨putD T dst r', setAll S [(p, (X, o'))]⟩) (hSp : At S p (X, o) := by exact At.f) [hf : Frz r r'] (ht : noTup [(x0, v0)] = true := by rfl) (hd : dstOk dst nt = true := by rfl) : AOps ro P nt ops Q (⟨dst, .call ⟨.value (.func f), #[x0], ats⟩, ty, pos, after, none⟩ :: rest) ⟨T, S⟩ := AOps.s (W.callO1 h0 hSp h ht hf.h) hd k
theorem AOps.o2 {x0 : Operand} {v0 : AV} {x1 : Operand} {v1 : AV} {f : FuncId} {ats : Array TypeId} {r r' : AV} {X p : Nat} {o o' : AO} (h0 : Rd none T x0 v0 := by rfl) (h1 : Rd none T x1 v1 := by rfl) (h : PO P f [v0, v1] X o r o') (k : AOps ro P nt ops Q rest ⟨putD T dst r', setAll S [(p, (X, o'))]⟩) (hSp : At S p (X, o) := by exact At.f) [hf : Frz r r'] (ht : noTup [(x0, v0), (x1, v1)] = true := by rfl) (hd : dstOk dst nt = true := by rfl) : AOps ro P nt ops Q (⟨dst, .call ⟨.value (.func f), #[x0, x1], ats⟩, ty, pos, after, none⟩ :: rest) ⟨T, S⟩ := AOps.s (W.callO2 h0 h1 hSp h ht hf.h) hd k
end
end Go.Proofs.Ytbfcbfgpbbkecaa

namespace Go.Proofs.Ytbfcbfgpbbkecaa
set_option linter.unusedVariables false
variable {ro : Option Nat}
section
variable {P : Program} {nt : Nat} {ops : Array Oper} {Q : Exit → St → Prop} {rest : List Oper} {T : List (Nat × AV)} {S : List Slot} {xs : List (Operand × AV)} {rS wS : List (Nat × Slot)} {v : AV} {op : Op} {ty : TypeId} {pos : String} {after : Array Edge} {dst : Option Tmp} {l : List Oper} {acc : List Eff}
/-- A step that turns no object. -/
theorem RGo.go {g : Option (Nat × Bool)} {ts : List Nat} (k : RGo P nt ops l Q rest (acc ++ [⟨⟨dst, op, ty, pos, after, g⟩, ts ++ tmpsOf xs, rS.map (·.1), v, []⟩]) ⟨putD T dst v, S⟩) (h : Stp none P ⟨dst, op, ty, pos, after, g⟩ T S xs rS v [] := by exact Stp.f0) (hd : dstOk dst nt = true := by rfl) (hg : Grd ops T g ts := by first | exact .none | exact .met rfl rfl (by first | rfl | assumption)) : RGo P nt ops l Q (⟨dst, op, ty, pos, after, g⟩ :: rest) acc ⟨T, S⟩ := RGo.pg h hd hg k
/-- A store. -/
theorem RGo.goS {g : Option (Nat × Bool)} {ts : List Nat} (k : RGo P nt ops l Q rest (acc ++ [⟨⟨dst, op, ty, pos, after, g⟩, ts ++ tmpsOf xs, rS.map (·.1), v, wS⟩]) ⟨putD T dst v, setAll S wS⟩) (h : Stp none P ⟨dst, op, ty, pos, after, g⟩ T S xs rS v wS := by exact Stp.st) (hd : dstOk dst nt = true := by rfl) (hg : Grd ops T g ts := by first | exact .none | exact .met rfl rfl (by first | rfl | assumption)) : RGo P nt ops l Q (⟨dst, op, ty, pos, after, g⟩ :: rest) acc ⟨T, S⟩ := RGo.sg h hd hg k
theorem RGo.goQ1 {g : Nat} {b b' : Bool} {t : Nat} (k : RGo P nt ops l Q rest (acc ++ [⟨⟨dst, op, ty, pos, after, some (g, b)⟩, t :: tmpsOf xs, rS.map (·.1), (.opt (b' == b) v), []⟩]) ⟨putD T dst (.opt (b' == b) v), S⟩) (ht : (ops[g]?).bind (·.dst) = some t := by rfl) (hv : look T t = some (.prim (.bool b')) := by rfl) (h : Stp (some [b' == b]) P ⟨dst, op, ty, pos, after, some (g, b)⟩ T S xs rS v [] := by exact Stp.f1) (hd : dstOk dst nt = true := by rfl) (hos : onceT xs = true := by exact rfl) : RGo P nt ops l Q (⟨dst, op, ty, pos, after, some (g, b)⟩ :: rest) acc ⟨T, S⟩ := RGo.sQ1 h ht hv hd hos k
theorem RGo.goQ2 {c1 : Bool} {g : Nat} {b b' : Bool} {t : Nat} (k : RGo P nt ops l Q rest (acc ++ [⟨⟨dst, op, ty, pos, after, some (g, b)⟩, t :: tmpsOf xs, rS.map (·.1), (.opt c1 (.opt (b' == b) v)), []⟩]) ⟨putD T dst (.opt c1 (.opt (b' == b) v)), S⟩) (ht : (ops[g]?).bind (·.dst) = some t := by rfl) (hv : look T t = some (.opt c1 (.prim (.bool b'))) := by rfl) (h : Stp (some [c1, b' == b]) P ⟨dst, op, ty, pos, after, some (g, b)⟩ T S xs rS v [] := by exact Stp.f2) (hd : dstOk dst nt = true := by rfl) (hos : onceT xs = true := by exact rfl) : RGo P nt ops l Q (⟨dst, op, ty, pos, after, some (g, b)⟩ :: rest) acc ⟨T, S⟩ := RGo.sQ2 h ht hv hd hos k
theorem RGo.goQ3 {c1 c2 : Bool} {g : Nat} {b b' : Bool} {t : Nat} (k : RGo P nt ops l Q rest (acc ++ [⟨⟨dst, op, ty, pos, after, some (g, b)⟩, t :: tmpsOf xs, rS.map (·.1), (.opt c1 (.opt c2 (.opt (b' == b) v))), []⟩]) ⟨putD T dst (.opt c1 (.opt c2 (.opt (b' == b) v))), S⟩) (ht : (ops[g]?).bind (·.dst) = some t := by rfl) (hv : look T t = some (.opt c1 (.opt c2 (.prim (.bool b')))) := by rfl) (h : Stp (some [c1, c2, b' == b]) P ⟨dst, op, ty, pos, after, some (g, b)⟩ T S xs rS v [] := by exact Stp.f3) (hd : dstOk dst nt = true := by rfl) (hos : onceT xs = true := by exact rfl) : RGo P nt ops l Q (⟨dst, op, ty, pos, after, some (g, b)⟩ :: rest) acc ⟨T, S⟩ := RGo.sQ3 h ht hv hd hos k
theorem RGo.goN {g : Nat} {b b' : Bool} {t : Nat} (k : RGo P nt ops l Q rest (acc ++ [⟨⟨dst, op, ty, pos, after, some (g, b)⟩, [t], [], .dead, []⟩]) ⟨putD T dst .dead, S⟩) (ht : (ops[g]?).bind (·.dst) = some t := by rfl) (hv : look T t = some (.prim (.bool b')) := by rfl) (hb : b' = !b := by first | rfl | assumption | (simp only [Bool.not_true, Bool.not_false]; assumption)) (hd : dstOk dst nt = true := by rfl) : RGo P nt ops l Q (⟨dst, op, ty, pos, after, some (g, b)⟩ :: rest) acc ⟨T, S⟩ := RGo.sN ht hv hb hd k
/-- A new object at a stamp that was kept for it. -/
theorem RGo.goR {g : Option (Nat × Bool)} {ts : List Nat} (k : RGo P nt ops l Q rest (acc ++ [⟨⟨dst, op, ty, pos, after, g⟩, ts ++ tmpsOf xs, rS.map (·.1), v, wS⟩]) ⟨putD T dst v, setAll S wS⟩) (h : Stp none P ⟨dst, op, ty, pos, after, g⟩ T S xs rS v wS := by first | (apply Stp.g_alloc; exact W.allocN (by exact At.f) (by first | exact .inl rfl | exact .inr rfl) (by first | (dsimp only [zAV, List.map]; try exact rfl) | exact rfl) (by exact rfl)) | (apply Stp.g_box; exact W.box rfl (by exact At.f) rfl)) (hd : dstOk dst nt = true := by rfl) (hg : Grd ops T g ts := by first | exact .none | exact .met rfl rfl (by first | rfl | assumption)) : RGo P nt ops l Q (⟨dst, op, ty, pos, after, g⟩ :: rest) acc ⟨T, S⟩ := RGo.sg h hd hg k
theorem RGo.c0 {g : Option (Nat × Bool)} {ts : List Nat}  {f : FuncId} {ats : Array TypeId} {r r' : AV}  (h : PS P f [] r) (k : RGo P nt ops l Q rest (acc ++ [⟨⟨dst, .call ⟨.value (.func f), #[], ats⟩, ty, pos, after, g⟩, ts ++ tmpsOf [], [], r', []⟩]) ⟨putD T dst r', S⟩) [hf : Frz r r'] (ht : noTup [] = true := by rfl) (hd : dstOk dst nt = true := by rfl) (hg : Grd ops T g ts := by first | exact .none | exact .met rfl rfl (by first | rfl | assumption)) : RGo P nt ops l Q (⟨dst, .call ⟨.value (.func f), #[], ats⟩, ty, pos, after, g⟩ :: rest) acc ⟨T, S⟩ := RGo.pg (W.callF0  h ht hf.h) hd hg k
theorem RGo.c1 {g : Option (Nat × Bool)} {ts : List Nat} {x0 : Operand} {v0 : AV} {f : FuncId} {ats : Array TypeId} {r r' : AV} (h0 : Rd none T x0 v0 := by rfl) (h : PS P f [v0] r) (k : RGo P nt ops l Q rest (acc ++ [⟨⟨dst, .call ⟨.value (.func f), #[x0], ats⟩, ty, pos, after, g⟩, ts ++ tmpsOf [(x0, v0)], [], r', []⟩]) ⟨putD T dst r', S⟩) [hf : Frz r r'] (ht : noTup [(x0, v0)] = true := by rfl) (hd : dstOk dst nt = true := by rfl) (hg : Grd ops T g ts := by first | exact .none | exact .met rfl rfl (by first | rfl | assumption)) : RGo P nt ops l Q (⟨dst, .call ⟨.value (.func f), #[x0], ats⟩, ty, pos, after, g⟩ :: rest) acc ⟨T, S⟩ := RGo.pg (W.callF1 h0 h ht hf.h) hd hg k
theorem RGo.c2 {g : Option (Nat × Bool)} {ts : List Nat} {x0 : Operand} {v0 : AV} {x1 : Operand} {v1 : AV} {f : FuncId} {ats : Array TypeId} {r r' : AV} (h0 : Rd none T x0 v0 := by rfl) (h1 : Rd none T x1 v1 := by rfl) (h : PS P f [v0, v1] r) (k : RGo P nt ops l Q rest (acc ++ [⟨⟨dst, .call ⟨.value (.func f), #[x0, x1], ats⟩, ty, pos, after, g⟩, ts ++ tmpsOf [(x0, v0), (x1, v1)], [], r', []⟩]) ⟨putD T dst r', S⟩) [hf : Frz r r'] (ht : noTup [(x0, v0), (x1, v1)] = true := by rfl) (hd : dstOk dst nt = true := by rfl) (hg : Grd ops T g ts := by first | exact .none | exact .met rfl rfl (by first | rfl | assumption)) : RGo P nt ops l Q (⟨dst, .call ⟨.value (.func f), #[x0, x1], ats⟩, ty, pos, after, g⟩ :: rest) acc ⟨T, S⟩ := RGo.pg (W.callF2 h0 h1 h ht hf.h) hd hg k
theorem RGo.o2 {g : Option (Nat × Bool)} {ts : List Nat} {x0 : Operand} {v0 : AV} {x1 : Operand} {v1 : AV} {f : FuncId} {ats : Array TypeId} {r r' : AV} {X p : Nat} {o o' : AO} (h0 : Rd none T x0 v0 := by rfl) (h1 : Rd none T x1 v1 := by rfl) (h : PO P f [v0, v1] X o r o') (k : RGo P nt ops l Q rest (acc ++ [⟨⟨dst, .call ⟨.value (.func f), #[x0, x1], ats⟩, ty, pos, after, g⟩, ts ++ tmpsOf [(x0, v0), (x1, v1)], [p], r', [(p, (X, o'))]⟩]) ⟨putD T dst r', setAll S [(p, (X, o'))]⟩) (hSp : At S p (X, o) := by exact At.f) [hf : Frz r r'] (ht : noTup [(x0, v0), (x1, v1)] = true := by rfl) (hd : dstOk dst nt = true := by rfl) (hg : Grd ops T g ts := by first | exact .none | exact .met rfl rfl (by first | rfl | assumption)) : RGo P nt ops l Q (⟨dst, .call ⟨.value (.func f), #[x0, x1], ats⟩, ty, pos, after, g⟩ :: rest) acc ⟨T, S⟩ := RGo.sg (W.callO2 h0 h1 hSp h ht hf.h) hd hg k
end
section
variable {P : Program} {nt : Nat} {ops : Array Oper} {Q : Exit → St → Prop} {rest : List Oper} {T : List (Nat × AV)} {S : List Slot} {xs : List (Operand × AV)} {rS wS : List (Nat × Slot)} {v : AV} {op : Op} {ty : TypeId} {pos : String} {after : Array Edge} {dst : Option Tmp}
/-- A step that makes an object. -/
theorem AOps.goF {xs : Nat → List (Operand × AV)} {rS wS : Nat → List (Nat × Slot)} {v : Nat → AV} (k : ∀ X, AOps ro P nt ops Q rest ⟨putD T dst (v X), setAll ((X, .gone) :: S) (wS X)⟩) (h : ∀ X, Stp none P ⟨dst, op, ty, pos, after, none⟩ T ((X, .gone) :: S) (xs X) (rS X) (v X) (wS X) := by (intro X; first | (apply Stp.g_alloc; exact W.allocN .here (by first | exact .inl rfl | exact .inr rfl) (by first | (dsimp only [zAV, List.map]; try exact rfl) | exact rfl) (by exact rfl)) | (apply Stp.g_box; exact W.box rfl .here rfl))) (hd : dstOk dst nt = true := by rfl) : AOps ro P nt ops Q (⟨dst, op, ty, pos, after, none⟩ :: rest) ⟨T, S⟩ := AOps.rs fun X => AOps.s (h X) hd (k X)
end
section
variable {P : Program} {nt : Nat} {ops : Array Oper} {Q : Exit → St → Prop} {rest : List Oper} {T : List (Nat × AV)} {S : List Slot} {l ls : List AV} {ty t t' te : TypeId} {sz X p q : Nat} {x y : Operand} {pos : String} {after : Array Edge} {dst : Option Tmp}
theorem appB {m b : Nat} (h : m ≤ 1099511627776) (hb : b ≤ 128) : m * b ≤ 140737488355328 := Nat.le_trans (Nat.mul_le_mul h hb) (by decide)
theorem appM {m b : Nat} (h : m * b ≤ 140737488355328) (hb : 0 < b) : m ≤ maxLen := Nat.le_trans (Nat.le_trans (Nat.le_mul_of_pos_right m hb) h) (by decide)
/-- An append of a list that nobody writes: the row keeps its place. -/
theorem AOps.goA {m by_ : Nat} [TRo P t te sz by_] (k : ∀ Y, AOps ro P nt ops Q rest ⟨putD T dst (.sl Y 0 (m + ls.length)), S.set p (Y, .row te sz (l ++ ls))⟩) (hx : Rd none T x (.sl X 0 m) := by rfl) (hy : Rd none T y (.lst false t' sz ls) := by rfl) (hSp : At S p (X, .row te sz l) := by exact At.f) (hn : m = l.length := by first | rfl | assumption | omega | (simp; omega) | simp [*]) (hb : (m + ls.length) * by_ ≤ 140737488355328 := by first | assumption | exact appB (by first | assumption | omega | (simp; omega)) (by decide) | omega | (simp; omega)) (hby : 0 < by_ := by decide) (hd : dstOk dst nt = true := by rfl) : AOps ro P nt ops Q (⟨dst, .call ⟨.builtin .append, #[x, y], #[t, t]⟩, ty, pos, after, none⟩ :: rest) ⟨T, S⟩ := by
  subst hn
  refine AOps.rs fun Y => AOps.s (W.app (q := 0) (p := p + 1) (X := X) (Y := Y) hx hy .here (.next hSp) rfl hb (appM hb hby) (by simp)) hd (AOps.sub ?_ (k Y))
  · exact .cons _ (.refl _)
theorem RGo.goA {l0 : List Oper} {acc : List Eff} {m by_ Y : Nat} [TRo P t te sz by_] (k : RGo P nt ops l0 Q rest (acc ++ [⟨⟨dst, .call ⟨.builtin .append, #[x, y], #[t, t]⟩, ty, pos, after, none⟩, tmpsOf [(x, .sl X 0 m), (y, .lst false t' sz ls)], [q, p], .sl Y 0 (m + ls.length), [(q, (X, .used)), (p, (Y, .row te sz (l ++ ls)))]⟩]) ⟨putD T dst (.sl Y 0 (m + ls.length)), setAll S [(q, (X, .used)), (p, (Y, .row te sz (l ++ ls)))]⟩) (hx : Rd none T x (.sl X 0 m) := by rfl) (hy : Rd none T y (.lst false t' sz ls) := by rfl) (hSq : At S q (Y, .gone) := by exact At.f) (hSp : At S p (X, .row te sz l) := by exact At.f) (hn : m = l.length := by first | rfl | assumption | omega | (simp; omega) | simp [*]) (hb : (m + ls.length) * by_ ≤ 140737488355328 := by first | assumption | exact appB (by first | assumption | omega | (simp; omega)) (by decide) | omega | (simp; omega)) (hqp : q ≠ p := by decide) (hby : 0 < by_ := by decide) (hd : dstOk dst nt = true := by rfl) : RGo P nt ops l0 Q (⟨dst, .call ⟨.builtin .append, #[x, y], #[t, t]⟩, ty, pos, after, none⟩ :: rest) acc ⟨T, S⟩ := by
  subst hn
  exact RGo.s (W.app hx hy hSq hSp rfl hb (appM hb hby) hqp) hd k
/-- A literal of one element, the element as we say it. -/
theorem AOps.goL {zl : List Value} {ag : Bool} (v : AV) (k : AOps ro P nt ops Q rest ⟨putD T dst (.lst false te sz [v]), S⟩) [TEl P t te] [TZe P te zl] [TSize P te sz] [TAg P te ag] [hz : Frz v v] (h0 : Rd none T x v := by exact rfl) (hzs : zl.length = sz := by exact rfl) (hag : ag = true ∨ zl.length = 1 := by first | exact .inl rfl | exact .inr rfl) (hn : 1 * sz ≤ 16777216 := by decide) (hpos : 0 < 1 * sz := by decide) (hf : fillE sz (List.replicate 1 (zAV zl ag)) [(0, v)] = some [v] := by exact rfl) (hd : dstOk dst nt = true := by rfl) : AOps ro P nt ops Q (⟨dst, .buildSlice t 1 #[(0, x)], ty, pos, after, none⟩ :: rest) ⟨T, S⟩ :=
  AOps.p (W.litF1 h0 hzs hag hn hpos hf) hd k
theorem RGo.goL {l0 : List Oper} {acc : List Eff} {zl : List Value} {ag : Bool} (v : AV) (k : RGo P nt ops l0 Q rest (acc ++ [⟨⟨dst, .buildSlice t 1 #[(0, x)], ty, pos, after, none⟩, tmpsOf [(x, v)], [], .lst false te sz [v], []⟩]) ⟨putD T dst (.lst false te sz [v]), S⟩) [TEl P t te] [TZe P te zl] [TSize P te sz] [TAg P te ag] [hz : Frz v v] (h0 : Rd none T x v := by exact rfl) (hzs : zl.length = sz := by exact rfl) (hag : ag = true ∨ zl.length = 1 := by first | exact .inl rfl | exact .inr rfl) (hn : 1 * sz ≤ 16777216 := by decide) (hpos : 0 < 1 * sz := by decide) (hf : fillE sz (List.replicate 1 (zAV zl ag)) [(0, v)] = some [v] := by exact rfl) (hd : dstOk dst nt = true := by rfl) : RGo P nt ops l0 Q (⟨dst, .buildSlice t 1 #[(0, x)], ty, pos, after, none⟩ :: rest) acc ⟨T, S⟩ :=
  RGo.p (W.litF1 h0 hzs hag hn hpos hf) hd k
theorem AOps.g_lit {n : Nat} {ar : Array (Nat × Operand)} {st : St} {g : Option (Nat × Bool)} (k : AOps ro P nt ops Q (⟨dst, .buildSlice t n ar, ty, pos, after, g⟩ :: rest) st) : AOps ro P nt ops Q (⟨dst, .buildSlice t n ar, ty, pos, after, g⟩ :: rest) st := k
theorem RGo.g_lit {l0 : List Oper} {acc : List Eff} {n : Nat} {ar : Array (Nat × Operand)} {st : St} {g : Option (Nat × Bool)} (k : RGo P nt ops l0 Q (⟨dst, .buildSlice t n ar, ty, pos, after, g⟩ :: rest) acc st) : RGo P nt ops l0 Q (⟨dst, .buildSlice t n ar, ty, pos, after, g⟩ :: rest) acc st := k
theorem AOps.g_callv {d : Nat} {xs : Array Operand} {ats : Array TypeId} {st : St} {g : Option (Nat × Bool)} (k : AOps ro P nt ops Q (⟨dst, .call ⟨.value (.tmp d), xs, ats⟩, ty, pos, after, g⟩ :: rest) st) : AOps ro P nt ops Q (⟨dst, .call ⟨.value (.tmp d), xs, ats⟩, ty, pos, after, g⟩ :: rest) st := k
theorem AOps.g_callf {f : FuncId} {xs : Array Operand} {ats : Array TypeId} {st : St} {g : Option (Nat × Bool)} (k : AOps ro P nt ops Q (⟨dst, .call ⟨.value (.func f), xs, ats⟩, ty, pos, after, g⟩ :: rest) st) : AOps ro P nt ops Q (⟨dst, .call ⟨.value (.func f), xs, ats⟩, ty, pos, after, g⟩ :: rest) st := k
theorem RGo.g_callf {l0 : List Oper} {acc : List Eff} {f : FuncId} {xs : Array Operand} {ats : Array TypeId} {st : St} {g : Option (Nat × Bool)} (k : RGo P nt ops l0 Q (⟨dst, .call ⟨.value (.func f), xs, ats⟩, ty, pos, after, g⟩ :: rest) acc st) : RGo P nt ops l0 Q (⟨dst, .call ⟨.value (.func f), xs, ats⟩, ty, pos, after, g⟩ :: rest) acc st := k
end
section
variable {P : Program} {nt : Nat} {ops : Array Oper} {Q : Exit → St → Prop} {l rest : List Oper} {acc : List Eff} {st : St} {op : Op} {ty : TypeId} {pos : String} {after : Array Edge} {dst : Option Tmp}
theorem AOps.gN (k : AOps ro P nt ops Q (⟨dst, op, ty, pos, after, none⟩ :: rest) st) : AOps ro P nt ops Q (⟨dst, op, ty, pos, after, none⟩ :: rest) st := k
theorem RGo.gN (k : RGo P nt ops l Q (⟨dst, op, ty, pos, after, none⟩ :: rest) acc st) : RGo P nt ops l Q (⟨dst, op, ty, pos, after, none⟩ :: rest) acc st := k
end
/-! ### loops and ends -/
theorem AWP.lp {P : Program} {nt : Nat} {Q : Exit → St → Prop} {c : Code} {st : St} {β : Type} (inv : β → St) (R : β → Prop) (μ : β → Nat) (b0 : β) (hR : R b0) (round : ∀ b, R b → AWP ro P nt c (andThen (fun st' => ∃ b', R b' ∧ μ b' < μ b ∧ st'.Le (inv b')) Q) (inv b)) (h0 : st.Le (inv b0) := by exact ⟨by exact Lk.f, by exact Sub.f⟩) : AWP ro P nt (.loop c) Q st := AWP.loopR inv R μ b0 hR h0 round
theorem lp_next {β : Type} {R : β → Prop} {μ : β → Nat} {m : Nat} {inv : β → St} {st : St} (b' : β) (hR : R b') (hμ : μ b' < m := by omega) (h0 : st.Le (inv b') := by exact ⟨by exact Lk.f, by exact Sub.f⟩) : ∃ b', R b' ∧ μ b' < m ∧ st.Le (inv b') := ⟨b', hR, hμ, h0⟩

theorem AWP.lp2 {P : Program} {nt : Nat} {Q : Exit → St → Prop} {c : Code} {st : St} {β0 β1 : Type} (inv : β0 → β1 → St) (R : β0 → β1 → Prop) (μ : β0 → β1 → Nat) (c0 : β0) (c1 : β1) (hR : R c0 c1) (round : ∀ b0 b1, R b0 b1 → AWP ro P nt c (andThen (fun st' => ∃ b0' b1', R b0' b1' ∧ μ b0' b1' < μ b0 b1 ∧ st'.Le (inv b0' b1')) Q) (inv b0 b1)) (h0 : st.Le (inv c0 c1) := by exact ⟨by exact Lk.f, by exact Sub.f⟩) : AWP ro P nt (.loop c) Q st :=
  AWP.loopR (β := β0 × β1) (fun b => inv b.1 b.2) (fun b => R b.1 b.2) (fun b => μ b.1 b.2) (c0, c1) hR h0 fun b hb => (round b.1 b.2 hb).mono fun e st' h => by
    cases e with
    | normal => obtain ⟨b0', b1', h1, h2, h3⟩ := h; exact ⟨(b0', b1'), h1, h2, h3⟩
    | _ => exact h
theorem lp_next2 {β0 β1 : Type} {R : β0 → β1 → Prop} {μ : β0 → β1 → Nat} {m : Nat} {inv : β0 → β1 → St} {st : St} (b0' : β0) (b1' : β1) (hR : R b0' b1') (hμ : μ b0' b1' < m := by omega) (h0 : st.Le (inv b0' b1') := by exact ⟨by exact Lk.f, by exact Sub.f⟩) : ∃ b0' b1', R b0' b1' ∧ μ b0' b1' < m ∧ st.Le (inv b0' b1') := ⟨b0', b1', hR, hμ, h0⟩
theorem AWP.lp3 {P : Program} {nt : Nat} {Q : Exit → St → Prop} {c : Code} {st : St} {β0 β1 β2 : Type} (inv : β0 → β1 → β2 → St) (R : β0 → β1 → β2 → Prop) (μ : β0 → β1 → β2 → Nat) (c0 : β0) (c1 : β1) (c2 : β2) (hR : R c0 c1 c2) (round : ∀ b0 b1 b2, R b0 b1 b2 → AWP ro P nt c (andThen (fun st' => ∃ b0' b1' b2', R b0' b1' b2' ∧ μ b0' b1' b2' < μ b0 b1 b2 ∧ st'.Le (inv b0' b1' b2')) Q) (inv b0 b1 b2)) (h0 : st.Le (inv c0 c1 c2) := by exact ⟨by exact Lk.f, by exact Sub.f⟩) : AWP ro P nt (.loop c) Q st :=
  AWP.loopR (β := β0 × β1 × β2) (fun b => inv b.1 b.2.1 b.2.2) (fun b => R b.1 b.2.1 b.2.2) (fun b => μ b.1 b.2.1 b.2.2) (c0, c1, c2) hR h0 fun b hb => (round b.1 b.2.1 b.2.2 hb).mono fun e st' h => by
    cases e with
    | normal => obtain ⟨b0', b1', b2', h1, h2, h3⟩ := h; exact ⟨(b0', b1', b2'), h1, h2, h3⟩
    | _ => exact h
theorem lp_next3 {β0 β1 β2 : Type} {R : β0 → β1 → β2 → Prop} {μ : β0 → β1 → β2 → Nat} {m : Nat} {inv : β0 → β1 → β2 → St} {st : St} (b0' : β0) (b1' : β1) (b2' : β2) (hR : R b0' b1' b2') (hμ : μ b0' b1' b2' < m := by omega) (h0 : st.Le (inv b0' b1' b2') := by exact ⟨by exact Lk.f, by exact Sub.f⟩) : ∃ b0' b1' b2', R b0' b1' b2' ∧ μ b0' b1' b2' < m ∧ st.Le (inv b0' b1' b2') := ⟨b0', b1', b2', hR, hμ, h0⟩
theorem AWP.lp4 {P : Program} {nt : Nat} {Q : Exit → St → Prop} {c : Code} {st : St} {β0 β1 β2 β3 : Type} (inv : β0 → β1 → β2 → β3 → St) (R : β0 → β1 → β2 → β3 → Prop) (μ : β0 → β1 → β2 → β3 → Nat) (c0 : β0) (c1 : β1) (c2 : β2) (c3 : β3) (hR : R c0 c1 c2 c3) (round : ∀ b0 b1 b2 b3, R b0 b1 b2 b3 → AWP ro P nt c (andThen (fun st' => ∃ b0' b1' b2' b3', R b0' b1' b2' b3' ∧ μ b0' b1' b2' b3' < μ b0 b1 b2 b3 ∧ st'.Le (inv b0' b1' b2' b3')) Q) (inv b0 b1 b2 b3)) (h0 : st.Le (inv c0 c1 c2 c3) := by exact ⟨by exact Lk.f, by exact Sub.f⟩) : AWP ro P nt (.loop c) Q st :=
  AWP.loopR (β := β0 × β1 × β2 × β3) (fun b => inv b.1 b.2.1 b.2.2.1 b.2.2.2) (fun b => R b.1 b.2.1 b.2.2.1 b.2.2.2) (fun b => μ b.1 b.2.1 b.2.2.1 b.2.2.2) (c0, c1, c2, c3) hR h0 fun b hb => (round b.1 b.2.1 b.2.2.1 b.2.2.2 hb).mono fun e st' h => by
    cases e with
    | normal => obtain ⟨b0', b1', b2', b3', h1, h2, h3⟩ := h; exact ⟨(b0', b1', b2', b3'), h1, h2, h3⟩
    | _ => exact h
theorem lp_next4 {β0 β1 β2 β3 : Type} {R : β0 → β1 → β2 → β3 → Prop} {μ : β0 → β1 → β2 → β3 → Nat} {m : Nat} {inv : β0 → β1 → β2 → β3 → St} {st : St} (b0' : β0) (b1' : β1) (b2' : β2) (b3' : β3) (hR : R b0' b1' b2' b3') (hμ : μ b0' b1' b2' b3' < m := by omega) (h0 : st.Le (inv b0' b1' b2' b3') := by exact ⟨by exact Lk.f, by exact Sub.f⟩) : ∃ b0' b1' b2' b3', R b0' b1' b2' b3' ∧ μ b0' b1' b2' b3' < m ∧ st.Le (inv b0' b1' b2' b3') := ⟨b0', b1', b2', b3', hR, hμ, h0⟩
theorem AWP.lp5 {P : Program} {nt : Nat} {Q : Exit → St → Prop} {c : Code} {st : St} {β0 β1 β2 β3 β4 : Type} (inv : β0 → β1 → β2 → β3 → β4 → St) (R : β0 → β1 → β2 → β3 → β4 → Prop) (μ : β0 → β1 → β2 → β3 → β4 → Nat) (c0 : β0) (c1 : β1) (c2 : β2) (c3 : β3) (c4 : β4) (hR : R c0 c1 c2 c3 c4) (round : ∀ b0 b1 b2 b3 b4, R b0 b1 b2 b3 b4 → AWP ro P nt c (andThen (fun st' => ∃ b0' b1' b2' b3' b4', R b0' b1' b2' b3' b4' ∧ μ b0' b1' b2' b3' b4' < μ b0 b1 b2 b3 b4 ∧ st'.Le (inv b0' b1' b2' b3' b4')) Q) (inv b0 b1 b2 b3 b4)) (h0 : st.Le (inv c0 c1 c2 c3 c4) := by exact ⟨by exact Lk.f, by exact Sub.f⟩) : AWP ro P nt (.loop c) Q st :=
  AWP.loopR (β := β0 × β1 × β2 × β3 × β4) (fun b => inv b.1 b.2.1 b.2.2.1 b.2.2.2.1 b.2.2.2.2) (fun b => R b.1 b.2.1 b.2.2.1 b.2.2.2.1 b.2.2.2.2) (fun b => μ b.1 b.2.1 b.2.2.1 b.2.2.2.1 b.2.2.2.2) (c0, c1, c2, c3, c4) hR h0 fun b hb => (round b.1 b.2.1 b.2.2.1 b.2.2.2.1 b.2.2.2.2 hb).mono fun e st' h => by
    cases e with
    | normal => obtain ⟨b0', b1', b2', b3', b4', h1, h2, h3⟩ := h; exact ⟨(b0', b1', b2', b3', b4'), h1, h2, h3⟩
    | _ => exact h
theorem lp_next5 {β0 β1 β2 β3 β4 : Type} {R : β0 → β1 → β2 → β3 → β4 → Prop} {μ : β0 → β1 → β2 → β3 → β4 → Nat} {m : Nat} {inv : β0 → β1 → β2 → β3 → β4 → St} {st : St} (b0' : β0) (b1' : β1) (b2' : β2) (b3' : β3) (b4' : β4) (hR : R b0' b1' b2' b3' b4') (hμ : μ b0' b1' b2' b3' b4' < m := by omega) (h0 : st.Le (inv b0' b1' b2' b3' b4') := by exact ⟨by exact Lk.f, by exact Sub.f⟩) : ∃ b0' b1' b2' b3' b4', R b0' b1' b2' b3' b4' ∧ μ b0' b1' b2' b3' b4' < m ∧ st.Le (inv b0' b1' b2' b3' b4') := ⟨b0', b1', b2', b3', b4', hR, hμ, h0⟩
theorem AWP.lp7 {P : Program} {nt : Nat} {Q : Exit → St → Prop} {c : Code} {st : St} {β0 β1 β2 β3 β4 β5 β6 : Type} (inv : β0 → β1 → β2 → β3 → β4 → β5 → β6 → St) (R : β0 → β1 → β2 → β3 → β4 → β5 → β6 → Prop) (μ : β0 → β1 → β2 → β3 → β4 → β5 → β6 → Nat) (c0 : β0) (c1 : β1) (c2 : β2) (c3 : β3) (c4 : β4) (c5 : β5) (c6 : β6) (hR : R c0 c1 c2 c3 c4 c5 c6) (round : ∀ b0 b1 b2 b3 b4 b5 b6, R b0 b1 b2 b3 b4 b5 b6 → AWP ro P nt c (andThen (fun st' => ∃ b0' b1' b2' b3' b4' b5' b6', R b0' b1' b2' b3' b4' b5' b6' ∧ μ b0' b1' b2' b3' b4' b5' b6' < μ b0 b1 b2 b3 b4 b5 b6 ∧ st'.Le (inv b0' b1' b2' b3' b4' b5' b6')) Q) (inv b0 b1 b2 b3 b4 b5 b6)) (h0 : st.Le (inv c0 c1 c2 c3 c4 c5 c6) := by exact ⟨by exact Lk.f, by exact Sub.f⟩) : AWP ro P nt (.loop c) Q st :=
  AWP.loopR (β := β0 × β1 × β2 × β3 × β4 × β5 × β6) (fun b => inv b.1 b.2.1 b.2.2.1 b.2.2.2.1 b.2.2.2.2.1 b.2.2.2.2.2.1 b.2.2.2.2.2.2) (fun b => R b.1 b.2.1 b.2.2.1 b.2.2.2.1 b.2.2.2.2.1 b.2.2.2.2.2.1 b.2.2.2.2.2.2) (fun b => μ b.1 b.2.1 b.2.2.1 b.2.2.2.1 b.2.2.2.2.1 b.2.2.2.2.2.1 b.2.2.2.2.2.2) (c0, c1, c2, c3, c4, c5, c6) hR h0 fun b hb => (round b.1 b.2.1 b.2.2.1 b.2.2.2.1 b.2.2.2.2.1 b.2.2.2.2.2.1 b.2.2.2.2.2.2 hb).mono fun e st' h => by
    cases e with
    | normal => obtain ⟨b0', b1', b2', b3', b4', b5', b6', h1, h2, h3⟩ := h; exact ⟨(b0', b1', b2', b3', b4', b5', b6'), h1, h2, h3⟩
    | _ => exact h
theorem lp_next7 {β0 β1 β2 β3 β4 β5 β6 : Type} {R : β0 → β1 → β2 → β3 → β4 → β5 → β6 → Prop} {μ : β0 → β1 → β2 → β3 → β4 → β5 → β6 → Nat} {m : Nat} {inv : β0 → β1 → β2 → β3 → β4 → β5 → β6 → St} {st : St} (b0' : β0) (b1' : β1) (b2' : β2) (b3' : β3) (b4' : β4) (b5' : β5) (b6' : β6) (hR : R b0' b1' b2' b3' b4' b5' b6') (hμ : μ b0' b1' b2' b3' b4' b5' b6' < m := by omega) (h0 : st.Le (inv b0' b1' b2' b3' b4' b5' b6') := by exact ⟨by exact Lk.f, by exact Sub.f⟩) : ∃ b0' b1' b2' b3' b4' b5' b6', R b0' b1' b2' b3' b4' b5' b6' ∧ μ b0' b1' b2' b3' b4' b5' b6' < m ∧ st.Le (inv b0' b1' b2' b3' b4' b5' b6') := ⟨b0', b1', b2', b3', b4', b5', b6', hR, hμ, h0⟩
theorem Ends.ps {P : Program} {t : Nat} {Sf : List Slot} {st : St} {a r : AV} (e : a = r) (h : look st.T t = some a := by rfl) (ha : ntup a = true := by rfl) (hS : Sf.Sublist st.S := by exact Sub.f) : Ends P [.tmp t] Sf (fun r' S' => r' = r ∧ S' = []) st := Ends.plain h ha hS ⟨e, rfl⟩
theorem CVs_id (S : List Slot) : ∀ as : List AV, CVs S as as S
  | [] => .nil
  | _ :: as => .cons (.cell .same) (CVs_id S as)
/-- The results as they stand. -/
theorem Ends.id {P : Program} {res : List ResultVar} {Sf : List Slot} {st : St} {rs : List AV} {r : AV} (e : packR rs = r) (h : ResVs P st res rs := by (repeat (first | exact .nil | refine .cons (.tmp (by rfl)) (by rfl) ?_ | refine .cons (.cell (by rfl) (by exact At.f) TAg.h TSize.h (by exact rfl) (by exact rfl)) (by rfl) ?_))) (hS : Sf.Sublist st.S := by exact Sub.f) : Ends P res Sf (fun r' S' => r' = r ∧ S' = []) st := ⟨rs, rs, st.S, [], h, CVs_id _ _, hS, e, rfl⟩
/-- A guard that is met may be left out. -/
theorem AOps.met {P : Program} {nt : Nat} {ops : Array Oper} {Q : Exit → St → Prop} {rest : List Oper} {st : St} {op : Op} {ty : TypeId} {pos : String} {after : Array Edge} {dst : Option Tmp} {g : Nat} {b b' : Bool} {t : Nat} (k : AOps ro P nt ops Q (⟨dst, op, ty, pos, after, none⟩ :: rest) st) (ht : (ops[g]?).bind (·.dst) = some t := by rfl) (hv : look st.T t = some (.prim (.bool b')) := by rfl) (hb : b' = b := by first | rfl | assumption) : AOps ro P nt ops Q (⟨dst, op, ty, pos, after, some (g, b)⟩ :: rest) st := by
  intro m0 a w hr
  have h := k m0 a w hr
  have hy : yielded ops a.tmps g = some b := by
    obtain ⟨m, N, Z, h1, h2, h3, h4, h5, h6⟩ := hr
    obtain ⟨u, hu1, hu2⟩ := h6 t _ hv
    obtain ⟨⟨e, _⟩, _⟩ := hu2
    injection e with e
    subst e hb
    simp [yielded, ht, hu1]
  unfold wpListIn at h ⊢
  rw [if_pos (by simp [Region.wanted])] at h
  rw [if_pos (by simp [Region.wanted, hy])]
  exact h
structure All (p : Nat → Prop) : Prop where
  i ::
  h : ∀ X, p X
structure AllY (p : Nat → Prop) : Prop where
  i ::
  h : ∀ X, p X
section
variable {P : Program} {nt : Nat} {ops : Array Oper} {Q : Exit → St → Prop} {rest : List Oper} {T : List (Nat × AV)} {S : List Slot} {xs : List (Operand × AV)} {rS wS : List (Nat × Slot)} {v : AV} {op : Op} {ty : TypeId} {pos : String} {after : Array Edge} {dst : Option Tmp} {t t2 t' te : TypeId} {x y z : Operand} {g : Option (Nat × Bool)} {st : St} {c : Code} {l ls : List AV} {sz X p q : Nat}
theorem AOps.goF1 {xs : Nat → List (Operand × AV)} {rS wS : Nat → List (Nat × Slot)} {v : Nat → AV} (h : ∀ X, Stp none P ⟨dst, op, ty, pos, after, none⟩ T ((X, .gone) :: S) (xs X) (rS X) (v X) (wS X) := by (intro X; first | (apply Stp.g_alloc; exact W.allocN .here (by first | exact .inl rfl | exact .inr rfl) (by first | (dsimp only [zAV, List.map]; try exact rfl) | exact rfl) (by exact rfl)) | (apply Stp.g_box; exact W.box rfl .here rfl))) (hd : dstOk dst nt = true := by rfl) : (All fun X => AOps ro P nt ops Q rest ⟨putD T dst (v X), setAll ((X, .gone) :: S) (wS X)⟩) → AOps ro P nt ops Q (⟨dst, op, ty, pos, after, none⟩ :: rest) ⟨T, S⟩ := fun k => AOps.goF k.h h hd
theorem AOps.goA1 {m by_ : Nat} [TRo P t te sz by_] (hx : Rd none T x (.sl X 0 m) := by rfl) (hy : Rd none T y (.lst false t' sz ls) := by rfl) (hSp : At S p (X, .row te sz l) := by exact At.f) (hn : m = l.length := by first | rfl | assumption | omega | (simp; omega) | simp [*]) (hb : (m + ls.length) * by_ ≤ 140737488355328 := by first | assumption | exact appB (by first | assumption | omega | (simp; omega)) (by decide) | omega | (simp; omega)) (hby : 0 < by_ := by decide) (hd : dstOk dst nt = true := by rfl) : (AllY fun Y => AOps ro P nt ops Q rest ⟨putD T dst (.sl Y 0 (m + ls.length)), S.set p (Y, .row te sz (l ++ ls))⟩) → AOps ro P nt ops Q (⟨dst, .call ⟨.builtin .append, #[x, y], #[t, t]⟩, ty, pos, after, none⟩ :: rest) ⟨T, S⟩ := fun k => AOps.goA k.h hx hy hSp hn hb hby hd
end
section
variable {P : Program} {nt : Nat} {ops : Array Oper} {Q : Exit → St → Prop} {rest : List Oper} {T : List (Nat × AV)} {S : List Slot} {xs : List (Operand × AV)} {rS wS : List (Nat × Slot)} {v : AV} {op : Op} {ty : TypeId} {pos : String} {after : Array Edge} {dst : Option Tmp} {t t2 t' te : TypeId} {x y z : Operand} {g : Option (Nat × Bool)} {st : St} {c : Code} {l ls : List AV} {sz X p q : Nat}
theorem AOps.go_ (h : Stp none P ⟨dst, op, ty, pos, after, none⟩ T S xs rS v [] := by exact Stp.f0) (hd : dstOk dst nt = true := by rfl) : (AOps ro P nt ops Q rest ⟨putD T dst v, S⟩) → AOps ro P nt ops Q (⟨dst, op, ty, pos, after, none⟩ :: rest) ⟨T, S⟩ := fun k => AOps.go (k := k) (h := h) (hd := hd)
theorem AOps.goS_ (h : Stp none P ⟨dst, op, ty, pos, after, none⟩ T S xs rS v wS := by exact Stp.st) (hd : dstOk dst nt = true := by rfl) : (AOps ro P nt ops Q rest ⟨putD T dst v, setAll S wS⟩) → AOps ro P nt ops Q (⟨dst, op, ty, pos, after, none⟩ :: rest) ⟨T, S⟩ := fun k => AOps.goS (k := k) (h := h) (hd := hd)
theorem AOps.met_ {P : Program} {nt : Nat} {ops : Array Oper} {Q : Exit → St → Prop} {rest : List Oper} {st : St} {op : Op} {ty : TypeId} {pos : String} {after : Array Edge} {dst : Option Tmp} {g : Nat} {b b' : Bool} {t : Nat} (ht : (ops[g]?).bind (·.dst) = some t := by rfl) (hv : look st.T t = some (.prim (.bool b')) := by rfl) (hb : b' = b := by first | rfl | assumption) : (AOps ro P nt ops Q (⟨dst, op, ty, pos, after, none⟩ :: rest) st) → AOps ro P nt ops Q (⟨dst, op, ty, pos, after, some (g, b)⟩ :: rest) st := fun k => AOps.met (k := k) (ht := ht) (hv := hv) (hb := hb)
theorem AOps.goN_ {g : Nat} {b b' : Bool} {t : Nat} (ht : (ops[g]?).bind (·.dst) = some t := by rfl) (hv : look T t = some (.prim (.bool b')) := by rfl) (hb : b' = !b := by first | rfl | assumption | (simp only [Bool.not_true, Bool.not_false]; assumption)) (hd : dstOk dst nt = true := by rfl) : (AOps ro P nt ops Q rest ⟨putD T dst .dead, S⟩) → AOps ro P nt ops Q (⟨dst, op, ty, pos, after, some (g, b)⟩ :: rest) ⟨T, S⟩ := fun k => AOps.goN (k := k) (ht := ht) (hv := hv) (hb := hb) (hd := hd)
theorem AOps.goQ1_ {g : Nat} {b b' : Bool} {t : Nat} (ht : (ops[g]?).bind (·.dst) = some t := by rfl) (hv : look T t = some (.prim (.bool b')) := by rfl) (h : Stp (some [b' == b]) P ⟨dst, op, ty, pos, after, some (g, b)⟩ T S xs rS v [] := by exact Stp.f1) (hd : dstOk dst nt = true := by rfl) (hos : onceT xs = true := by exact rfl) : (AOps ro P nt ops Q rest ⟨putD T dst (.opt (b' == b) v), S⟩) → AOps ro P nt ops Q (⟨dst, op, ty, pos, after, some (g, b)⟩ :: rest) ⟨T, S⟩ := fun k => AOps.goQ1 (k := k) (ht := ht) (hv := hv) (h := h) (hd := hd) (hos := hos)
theorem AOps.goQ2_ {c1 : Bool} {g : Nat} {b b' : Bool} {t : Nat} (ht : (ops[g]?).bind (·.dst) = some t := by rfl) (hv : look T t = some (.opt c1 (.prim (.bool b'))) := by rfl) (h : Stp (some [c1, b' == b]) P ⟨dst, op, ty, pos, after, some (g, b)⟩ T S xs rS v [] := by exact Stp.f2) (hd : dstOk dst nt = true := by rfl) (hos : onceT xs = true := by exact rfl) : (AOps ro P nt ops Q rest ⟨putD T dst (.opt c1 (.opt (b' == b) v)), S⟩) → AOps ro P nt ops Q (⟨dst, op, ty, pos, after, some (g, b)⟩ :: rest) ⟨T, S⟩ := fun k => AOps.goQ2 (k := k) (ht := ht) (hv := hv) (h := h) (hd := hd) (hos := hos)
theorem AOps.goQ3_ {c1 c2 : Bool} {g : Nat} {b b' : Bool} {t : Nat} (ht : (ops[g]?).bind (·.dst) = some t := by rfl) (hv : look T t = some (.opt c1 (.opt c2 (.prim (.bool b')))) := by rfl) (h : Stp (some [c1, c2, b' == b]) P ⟨dst, op, ty, pos, after, some (g, b)⟩ T S xs rS v [] := by exact Stp.f3) (hd : dstOk dst nt = true := by rfl) (hos : onceT xs = true := by exact rfl) : (AOps ro P nt ops Q rest ⟨putD T dst (.opt c1 (.opt c2 (.opt (b' == b) v))), S⟩) → AOps ro P nt ops Q (⟨dst, op, ty, pos, after, some (g, b)⟩ :: rest) ⟨T, S⟩ := fun k => AOps.goQ3 (k := k) (ht := ht) (hv := hv) (h := h) (hd := hd) (hos := hos)
end
section
variable {P : Program} {nt : Nat} {ops : Array Oper} {Q : Exit → St → Prop} {rest : List Oper} {T : List (Nat × AV)} {S : List Slot} {xs : List (Operand × AV)} {rS wS : List (Nat × Slot)} {v : AV} {op : Op} {ty : TypeId} {pos : String} {after : Array Edge} {dst : Option Tmp} {t t2 t' te : TypeId} {x y z : Operand}  {st : St} {c : Code} {l : List Oper} {acc : List Eff}
theorem RGo.go_ {g : Option (Nat × Bool)} {ts : List Nat} (h : Stp none P ⟨dst, op, ty, pos, after, g⟩ T S xs rS v [] := by exact Stp.f0) (hd : dstOk dst nt = true := by rfl) (hg : Grd ops T g ts := by first | exact .none | exact .met rfl rfl (by first | rfl | assumption)) : (RGo P nt ops l Q rest (acc ++ [⟨⟨dst, op, ty, pos, after, g⟩, ts ++ tmpsOf xs, rS.map (·.1), v, []⟩]) ⟨putD T dst v, S⟩) → RGo P nt ops l Q (⟨dst, op, ty, pos, after, g⟩ :: rest) acc ⟨T, S⟩ := fun k => RGo.go (k := k) (h := h) (hd := hd) (hg := hg)
theorem RGo.goS_ {g : Option (Nat × Bool)} {ts : List Nat} (h : Stp none P ⟨dst, op, ty, pos, after, g⟩ T S xs rS v wS := by exact Stp.st) (hd : dstOk dst nt = true := by rfl) (hg : Grd ops T g ts := by first | exact .none | exact .met rfl rfl (by first | rfl | assumption)) : (RGo P nt ops l Q rest (acc ++ [⟨⟨dst, op, ty, pos, after, g⟩, ts ++ tmpsOf xs, rS.map (·.1), v, wS⟩]) ⟨putD T dst v, setAll S wS⟩) → RGo P nt ops l Q (⟨dst, op, ty, pos, after, g⟩ :: rest) acc ⟨T, S⟩ := fun k => RGo.goS (k := k) (h := h) (hd := hd) (hg := hg)
theorem RGo.goN_ {g : Nat} {b b' : Bool} {t : Nat} (ht : (ops[g]?).bind (·.dst) = some t := by rfl) (hv : look T t = some (.prim (.bool b')) := by rfl) (hb : b' = !b := by first | rfl | assumption | (simp only [Bool.not_true, Bool.not_false]; assumption)) (hd : dstOk dst nt = true := by rfl) : (RGo P nt ops l Q rest (acc ++ [⟨⟨dst, op, ty, pos, after, some (g, b)⟩, [t], [], .dead, []⟩]) ⟨putD T dst .dead, S⟩) → RGo P nt ops l Q (⟨dst, op, ty, pos, after, some (g, b)⟩ :: rest) acc ⟨T, S⟩ := fun k => RGo.goN (k := k) (ht := ht) (hv := hv) (hb := hb) (hd := hd)
theorem RGo.goQ1_ {g : Nat} {b b' : Bool} {t : Nat} (ht : (ops[g]?).bind (·.dst) = some t := by rfl) (hv : look T t = some (.prim (.bool b')) := by rfl) (h : Stp (some [b' == b]) P ⟨dst, op, ty, pos, after, some (g, b)⟩ T S xs rS v [] := by exact Stp.f1) (hd : dstOk dst nt = true := by rfl) (hos : onceT xs = true := by exact rfl) : (RGo P nt ops l Q rest (acc ++ [⟨⟨dst, op, ty, pos, after, some (g, b)⟩, t :: tmpsOf xs, rS.map (·.1), (.opt (b' == b) v), []⟩]) ⟨putD T dst (.opt (b' == b) v), S⟩) → RGo P nt ops l Q (⟨dst, op, ty, pos, after, some (g, b)⟩ :: rest) acc ⟨T, S⟩ := fun k => RGo.goQ1 (k := k) (ht := ht) (hv := hv) (h := h) (hd := hd) (hos := hos)
theorem RGo.goQ2_ {c1 : Bool} {g : Nat} {b b' : Bool} {t : Nat} (ht : (ops[g]?).bind (·.dst) = some t := by rfl) (hv : look T t = some (.opt c1 (.prim (.bool b'))) := by rfl) (h : Stp (some [c1, b' == b]) P ⟨dst, op, ty, pos, after, some (g, b)⟩ T S xs rS v [] := by exact Stp.f2) (hd : dstOk dst nt = true := by rfl) (hos : onceT xs = true := by exact rfl) : (RGo P nt ops l Q rest (acc ++ [⟨⟨dst, op, ty, pos, after, some (g, b)⟩, t :: tmpsOf xs, rS.map (·.1), (.opt c1 (.opt (b' == b) v)), []⟩]) ⟨putD T dst (.opt c1 (.opt (b' == b) v)), S⟩) → RGo P nt ops l Q (⟨dst, op, ty, pos, after, some (g, b)⟩ :: rest) acc ⟨T, S⟩ := fun k => RGo.goQ2 (k := k) (ht := ht) (hv := hv) (h := h) (hd := hd) (hos := hos)
theorem RGo.goQ3_ {c1 c2 : Bool} {g : Nat} {b b' : Bool} {t : Nat} (ht : (ops[g]?).bind (·.dst) = some t := by rfl) (hv : look T t = some (.opt c1 (.opt c2 (.prim (.bool b')))) := by rfl) (h : Stp (some [c1, c2, b' == b]) P ⟨dst, op, ty, pos, after, some (g, b)⟩ T S xs rS v [] := by exact Stp.f3) (hd : dstOk dst nt = true := by rfl) (hos : onceT xs = true := by exact rfl) : (RGo P nt ops l Q rest (acc ++ [⟨⟨dst, op, ty, pos, after, some (g, b)⟩, t :: tmpsOf xs, rS.map (·.1), (.opt c1 (.opt c2 (.opt (b' == b) v))), []⟩]) ⟨putD T dst (.opt c1 (.opt c2 (.opt (b' == b) v))), S⟩) → RGo P nt ops l Q (⟨dst, op, ty, pos, after, some (g, b)⟩ :: rest) acc ⟨T, S⟩ := fun k => RGo.goQ3 (k := k) (ht := ht) (hv := hv) (h := h) (hd := hd) (hos := hos)
theorem RGo.goR_ {g : Option (Nat × Bool)} {ts : List Nat} (h : Stp none P ⟨dst, op, ty, pos, after, g⟩ T S xs rS v wS := by first | (apply Stp.g_alloc; exact W.allocN (by exact At.f) (by first | exact .inl rfl | exact .inr rfl) (by first | (dsimp only [zAV, List.map]; try exact rfl) | exact rfl) (by exact rfl)) | (apply Stp.g_box; exact W.box rfl (by exact At.f) rfl)) (hd : dstOk dst nt = true := by rfl) (hg : Grd ops T g ts := by first | exact .none | exact .met rfl rfl (by first | rfl | assumption)) : (RGo P nt ops l Q rest (acc ++ [⟨⟨dst, op, ty, pos, after, g⟩, ts ++ tmpsOf xs, rS.map (·.1), v, wS⟩]) ⟨putD T dst v, setAll S wS⟩) → RGo P nt ops l Q (⟨dst, op, ty, pos, after, g⟩ :: rest) acc ⟨T, S⟩ := fun k => RGo.goR (k := k) (h := h) (hd := hd) (hg := hg)
end
section
variable {P : Program} {nt : Nat} {ops : Array Oper} {Q : Exit → St → Prop} {rest : List Oper} {T : List (Nat × AV)} {S : List Slot} {xs : List (Operand × AV)} {rS wS : List (Nat × Slot)} {v : AV} {op : Op} {ty : TypeId} {pos : String} {after : Array Edge} {dst : Option Tmp} {t t2 t' te : TypeId} {x y z : Operand}  {st : St} {c : Code} {l ls : List AV} {sz X p q : Nat}
theorem RGo.goA_ {l0 : List Oper} {acc : List Eff} {m by_ Y : Nat} [TRo P t te sz by_] (hx : Rd none T x (.sl X 0 m) := by rfl) (hy : Rd none T y (.lst false t' sz ls) := by rfl) (hSq : At S q (Y, .gone) := by exact At.f) (hSp : At S p (X, .row te sz l) := by exact At.f) (hn : m = l.length := by first | rfl | assumption | omega | (simp; omega) | simp [*]) (hb : (m + ls.length) * by_ ≤ 140737488355328 := by first | assumption | exact appB (by first | assumption | omega | (simp; omega)) (by decide) | omega | (simp; omega)) (hqp : q ≠ p := by decide) (hby : 0 < by_ := by decide) (hd : dstOk dst nt = true := by rfl) : (RGo P nt ops l0 Q rest (acc ++ [⟨⟨dst, .call ⟨.builtin .append, #[x, y], #[t, t]⟩, ty, pos, after, none⟩, tmpsOf [(x, .sl X 0 m), (y, .lst false t' sz ls)], [q, p], .sl Y 0 (m + ls.length), [(q, (X, .used)), (p, (Y, .row te sz (l ++ ls)))]⟩]) ⟨putD T dst (.sl Y 0 (m + ls.length)), setAll S [(q, (X, .used)), (p, (Y, .row te sz (l ++ ls)))]⟩) → RGo P nt ops l0 Q (⟨dst, .call ⟨.builtin .append, #[x, y], #[t, t]⟩, ty, pos, after, none⟩ :: rest) acc ⟨T, S⟩ := fun k => RGo.goA (k := k) (hx := hx) (hy := hy) (hSq := hSq) (hSp := hSp) (hn := hn) (hb := hb) (hqp := hqp) (hby := hby) (hd := hd)
end
section
variable {P : Program} {nt : Nat} {ops : Array Oper} {Q : Exit → St → Prop} {rest : List Oper} {T : List (Nat × AV)} {S : List Slot} {xs : List (Operand × AV)} {rS wS : List (Nat × Slot)} {v : AV} {op : Op} {ty : TypeId} {pos : String} {after : Array Edge} {dst : Option Tmp} {t t2 t' te : TypeId} {x y z : Operand} {g : Option (Nat × Bool)} {st : St} {c : Code} {l : List Oper} {acc : List Eff} {B : Prop} {gd : Nat × Bool}
theorem AOps.jN (k : B → AOps ro P nt ops Q (⟨dst, op, ty, pos, after, none⟩ :: rest) st) : B → AOps ro P nt ops Q (⟨dst, op, ty, pos, after, none⟩ :: rest) st := k
theorem AOps.jQ (k : B → AOps ro P nt ops Q (⟨dst, op, ty, pos, after, some gd⟩ :: rest) st) : B → AOps ro P nt ops Q (⟨dst, op, ty, pos, after, some gd⟩ :: rest) st := k
theorem AOps.j_store (k : B → AOps ro P nt ops Q (⟨dst, .store t x y, ty, pos, after, g⟩ :: rest) st) : B → AOps ro P nt ops Q (⟨dst, .store t x y, ty, pos, after, g⟩ :: rest) st := k
theorem AOps.j_alloc (k : B → AOps ro P nt ops Q (⟨dst, .alloc t, ty, pos, after, g⟩ :: rest) st) : B → AOps ro P nt ops Q (⟨dst, .alloc t, ty, pos, after, g⟩ :: rest) st := k
theorem AOps.j_box (k : B → AOps ro P nt ops Q (⟨dst, .box t x, ty, pos, after, g⟩ :: rest) st) : B → AOps ro P nt ops Q (⟨dst, .box t x, ty, pos, after, g⟩ :: rest) st := k
theorem AOps.j_append (k : B → AOps ro P nt ops Q (⟨dst, .call ⟨.builtin .append, #[x, y], #[t, t]⟩, ty, pos, after, g⟩ :: rest) st) : B → AOps ro P nt ops Q (⟨dst, .call ⟨.builtin .append, #[x, y], #[t, t]⟩, ty, pos, after, g⟩ :: rest) st := k
theorem RGo.jN (k : B → RGo P nt ops l Q (⟨dst, op, ty, pos, after, none⟩ :: rest) acc st) : B → RGo P nt ops l Q (⟨dst, op, ty, pos, after, none⟩ :: rest) acc st := k
theorem RGo.jQ (k : B → RGo P nt ops l Q (⟨dst, op, ty, pos, after, some gd⟩ :: rest) acc st) : B → RGo P nt ops l Q (⟨dst, op, ty, pos, after, some gd⟩ :: rest) acc st := k
theorem RGo.j_store (k : B → RGo P nt ops l Q (⟨dst, .store t x y, ty, pos, after, g⟩ :: rest) acc st) : B → RGo P nt ops l Q (⟨dst, .store t x y, ty, pos, after, g⟩ :: rest) acc st := k
theorem RGo.j_alloc (k : B → RGo P nt ops l Q (⟨dst, .alloc t, ty, pos, after, g⟩ :: rest) acc st) : B → RGo P nt ops l Q (⟨dst, .alloc t, ty, pos, after, g⟩ :: rest) acc st := k
theorem RGo.j_box (k : B → RGo P nt ops l Q (⟨dst, .box t x, ty, pos, after, g⟩ :: rest) acc st) : B → RGo P nt ops l Q (⟨dst, .box t x, ty, pos, after, g⟩ :: rest) acc st := k
theorem RGo.j_append (k : B → RGo P nt ops l Q (⟨dst, .call ⟨.builtin .append, #[x, y], #[t, t]⟩, ty, pos, after, g⟩ :: rest) acc st) : B → RGo P nt ops l Q (⟨dst, .call ⟨.builtin .append, #[x, y], #[t, t]⟩, ty, pos, after, g⟩ :: rest) acc st := k
end
/-- One operation of a walk that needs no word of ours. -/
theorem WO_ {A B : Prop} (h : B → A := by first | (apply AOps.jN; first | (apply AOps.j_store; exact AOps.goS_) | (apply AOps.j_alloc; exact AOps.goF1) | (apply AOps.j_box; exact AOps.goF1) | (apply AOps.j_append; exact AOps.goA1) | exact AOps.go_) | (apply AOps.jQ; first | exact AOps.met_ | exact AOps.goN_ | exact AOps.goQ1_ | exact AOps.goQ2_ | exact AOps.goQ3_)) : B → A := h
theorem WO {A B : Prop} (k : B) (h : B → A := by exact WO_) : A := h k
/-- One step between operations. -/
theorem WF_ {A B : Prop} (h : B → A := by first | exact AWP.seq | exact AWP.skip | exact AWP.block | exact AWP.exit | exact andThen_n | exact inB_n | exact andThen_e | exact inB_e | exact inB_ne rfl) : B → A := h
theorem WF {A B : Prop} (k : B) (h : B → A := by exact WF_) : A := h k
/-- One step behind a region. -/
theorem WN {A B : Prop} (k : B) (h : B → A := by first | exact andThen_n | exact inB_n | exact andThen_e | exact inB_e | exact inB_ne rfl) : A := h k
/-- One step of a walk that needs no word of ours. -/
theorem WK {A B : Prop} (k : B) (h : B → A := by first | exact WO_ | exact AOps.nil | exact WF_ | exact AWP.region) : A := h k
/-- One operation of a region that draws its order. -/
theorem RK {A B : Prop} (k : B) (h : B → A := by first | (apply RGo.jN; first | (apply RGo.j_store; exact RGo.goS_) | (apply RGo.j_append; exact RGo.goA_) | (apply RGo.j_alloc; exact RGo.goR_) | (apply RGo.j_box; exact RGo.goR_) | exact RGo.go_) | (apply RGo.jQ; first | (apply RGo.j_store; exact RGo.goS_) | (apply RGo.j_append; exact RGo.goA_) | (apply RGo.j_alloc; exact RGo.goR_) | (apply RGo.j_box; exact RGo.goR_) | exact RGo.go_ | exact RGo.goN_ | exact RGo.goQ1_ | exact RGo.goQ2_ | exact RGo.goQ3_)) : A := h k
end Go.Proofs.Ytbfcbfgpbbkecaa

namespace Go.Proofs.Ytbfcbfgpbbkecaa
set_option linter.unusedVariables false
set_option linter.unusedSimpArgs false
variable {ro : Option Nat}
open Go.RowKit

theorem slots_split {α β : Type} {f : α → β} : ∀ {Z : List α} {A B : List β}, Z.map f = A ++ B → ∃ ZA ZB, Z = ZA ++ ZB ∧ ZA.map f = A ∧ ZB.map f = B
  | Z, [], B, h => ⟨[], Z, rfl, rfl, h⟩
  | [], a :: A, B, h => by simp at h
  | z :: Z, a :: A, B, h => by
    simp only [List.map_cons, List.cons_append, List.cons.injEq] at h
    obtain ⟨ZA, ZB, e, h1, h2⟩ := slots_split h.2
    exact ⟨z :: ZA, ZB, by simp [e], by simp [h.1, h1], h2⟩

section
variable {P : Program} {nt : Nat} {ops : Array Oper} {Q : Exit → St → Prop} {rest : List Oper} {T : List (Nat × AV)} {S Si Sl Sf : List Slot} {y : Value} {xs : List (List AV)} {J : Nat → List Slot → Prop} {Jx : List Slot → Prop}
variable {dst : Option Tmp} {ty : TypeId} {pos : String} {after : Array Edge} {x : Operand} {ys : List (Operand × AV)} {ats : Array TypeId} {i : Nat}
/-- A new block that is frozen at once. -/
theorem Good.newFrz {m0 m : Mem} {N : Nat} {R : Zs} {ex : List Nat} (G : Good m0 m N R ex) (o : Obj) (m' : Mem) (hm' : m' = ⟨m.μ, m.U, m.w.alloc o, fun b => m.F b ∨ b = m.w.heap.size⟩) :
    Good m0 m' N R ex ∧ m.Le m' := by
  subst hm'
  have hle : m.Le ⟨m.μ, m.U, m.w.alloc o, fun b => m.F b ∨ b = m.w.heap.size⟩ := ⟨fun y h => h, fun _ _ _ h => h, fun b hb => ⟨.inl hb, Below.heap_alloc _ _ _ (G.frz b hb)⟩⟩
  refine ⟨Good.swap (zs := []) (zs' := []) (R := R) (ex := ex) (ex' := ex) G hle (by omega) (fun y _ _ => rfl) (fun b hb _ _ => Below.heap_alloc _ _ _ hb) (fun z hz => by cases hz) ?_ ?_ ?_ (by simp [Zs.keys]) (fun y hy => by simp [Zs.keys] at hy) ?_ rfl rfl rfl (by simp), hle⟩
  · simpa [Zs.own] using (List.nodup_append.1 G.own).2.1
  · intro b hb
    simp only [Zs.own, List.flatMap_nil, List.nil_append] at hb
    have := G.blk b (by simp [hb])
    refine ⟨by have := this.1; simp; omega, ?_, .inr (.inl hb)⟩
    rintro (h | h)
    · exact this.2 h
    · have := this.1; omega
  · intro b hb
    rcases hb with hb | rfl
    · exact ⟨by have := G.frz b hb; simp; omega, .inl hb⟩
    · exact ⟨by simp, .inr (.inr (.inr (Nat.le_refl _)))⟩
  · intro y hy
    exact ⟨G.usedN y hy, .inl hy⟩
end

section
variable {P : Program} {nt : Nat} {m0 m : Mem}
end
end Go.Proofs.Ytbfcbfgpbbkecaa

namespace Go.Proofs.Ytbfcbfgpbbkecaa
set_option linter.unusedVariables false
set_option linter.unusedSimpArgs false
variable {ro : Option Nat}
open Go.RowKit

section
variable {P : Program} {nt : Nat} {ops : Array Oper}
theorem masks_len' : ∀ (r : List Oper) (acc : List Nat), (masks r acc).length = acc.length + r.length
  | [], acc => by simp [masks]
  | o :: r, acc => by rw [masks, masks_len' r]; simp; omega
theorem masks_len (l : List Oper) : (masks l []).length = l.length := by rw [masks_len']; simp
end
end Go.Proofs.Ytbfcbfgpbbkecaa

namespace Go.Proofs.Ytbfcbfgpbbkecaa
set_option linter.unusedVariables false
set_option linter.unusedSimpArgs false
variable {ro : Option Nat}
open Go.RowKit
section
variable {P : Program} {nt : Nat} {ops : Array Oper} {Q : Exit → St → Prop} {rest : List Oper} {T : List (Nat × AV)} {S : List Slot} {dst : Option Tmp} {ty t te : TypeId} {pos : String} {after : Array Edge} {g : Option (Nat × Bool)} {x y : Operand} {X p sz : Nat} {l : List AV}
section
variable {Si Sl Sf : List Slot} {yv : Value} {xs : List (List AV)} {J : Nat → List Slot → Prop} {Jx : List Slot → Prop} {ats : Array TypeId} {i : Nat} {x0 x1 : Operand} {v0 v1 : AV}
end
end
end Go.Proofs.Ytbfcbfgpbbkecaa

namespace Go.Proofs.Ytbfcbfgpbbkecaa
set_option linter.unusedVariables false
theorem Ends.void {P : Program} {Sf : List Slot} {Q : AV → List Slot → Prop} {st : St} (S' : List Slot) (hQ : Q (.tup []) S') (hS : (S' ++ Sf).Sublist st.S := by (repeat (first | exact List.Sublist.refl _ | exact List.Sublist.slnil | apply List.Sublist.cons_cons | apply List.Sublist.cons))) : Ends P [] Sf Q st := ⟨[], [], st.S, S', .nil, .nil, hS, hQ⟩
end Go.Proofs.Ytbfcbfgpbbkecaa

namespace Go.Proofs.Ytbfcbfgpbbkecaa
set_option linter.unusedVariables false
set_option linter.unusedSimpArgs false
variable {ro : Option Nat}
open Go.RowKit

/-! ### several places of a list -/
def setZ {β : Type} (Z : List β) : List (Nat × β) → List β
  | [] => Z
  | q :: r => setZ (Z.set q.1 q.2) r
theorem setZ_len {β : Type} (wz : List (Nat × β)) : ∀ Z : List β, (setZ Z wz).length = Z.length := by
  induction wz with
  | nil => intro Z; rfl
  | cons q r ih => intro Z; simp [setZ, ih]
theorem setZ_ne {β : Type} (wz : List (Nat × β)) {p : Nat} (h : p ∉ wz.map (·.1)) : ∀ Z : List β, (setZ Z wz)[p]? = Z[p]? := by
  induction wz with
  | nil => intro Z; rfl
  | cons q r ih =>
    intro Z
    simp only [List.map_cons, List.mem_cons, not_or] at h
    rw [setZ, ih h.2, List.getElem?_set_ne (fun e => h.1 e.symm)]
theorem setZ_at {β : Type} (wz : List (Nat × β)) (hnd : (wz.map (·.1)).Nodup) : ∀ Z : List β, (∀ q ∈ wz, q.1 < Z.length) → ∀ q ∈ wz, (setZ Z wz)[q.1]? = some q.2 := by
  induction wz with
  | nil => intro Z _ q hq; cases hq
  | cons a r ih =>
    intro Z hlt q hq
    rw [List.map_cons, List.nodup_cons] at hnd
    rcases List.mem_cons.1 hq with rfl | hq
    · rw [setZ, setZ_ne r hnd.1, List.getElem?_set_self (hlt _ (by simp))]
    · exact ih hnd.2 _ (fun q hq => by rw [List.length_set]; exact hlt q (by simp [hq])) q hq
theorem setAll_setZ (wS : List (Nat × Slot)) : ∀ S, setAll S wS = setZ S wS := by
  induction wS with
  | nil => intro S; rfl
  | cons q r ih => intro S; exact ih _
theorem perm_of_mem {l k : List Nat} (hl : l.Nodup) (hk : k.Nodup) (h : ∀ x, x ∈ l ↔ x ∈ k) : l.Perm k := by
  rw [List.perm_iff_count]
  intro a
  rw [hl.count, hk.count]
  simp only [h a]
theorem map_range_get {β : Type} (Z : List β) : (List.range Z.length).map (fun i => Z[i]?) = Z.map some := by
  apply List.ext_getElem (by simp)
  intro i h1 h2
  have : i < Z.length := by simpa using h1
  simp [this]
/-- The places ps of a list, and the rest. -/
theorem perm_gets {β : Type} (Z : List β) (ps : List Nat) (hnd : ps.Nodup) (hlt : ∀ p ∈ ps, p < Z.length) : ∃ R, ∀ wz : List (Nat × β), wz.map (·.1) = ps → (setZ Z wz).Perm (wz.map (·.2) ++ R) := by
  let Q := (List.range Z.length).filter fun i => !decide (i ∈ ps)
  refine ⟨Q.filterMap fun i => Z[i]?, fun wz hw => ?_⟩
  have hwn : (wz.map (·.1)).Nodup := by rw [hw]; exact hnd
  have hwl : ∀ q ∈ wz, q.1 < Z.length := fun q hq => hlt _ (by rw [← hw]; exact List.mem_map_of_mem hq)
  have h1 : (List.range Z.length).Perm (ps ++ Q) := by
    refine (List.filter_append_perm (fun i => decide (i ∈ ps)) (List.range Z.length)).symm.trans ?_
    refine List.Perm.append_right _ (perm_of_mem (List.nodup_range.filter _) hnd fun x => ?_)
    simp only [List.mem_filter, List.mem_range, decide_eq_true_eq]
    exact ⟨fun h => h.2, fun h => ⟨hlt x h, h⟩⟩
  have h2 : ((setZ Z wz).map some).Perm ((ps ++ Q).map fun i => (setZ Z wz)[i]?) := by
    rw [← map_range_get, setZ_len]
    exact h1.map _
  have h3 : ps.map (fun i => (setZ Z wz)[i]?) = (wz.map (·.2)).map some := by
    rw [← hw, List.map_map, List.map_map]
    exact List.map_congr_left fun q hq => setZ_at wz hwn Z hwl q hq
  have h4 : Q.map (fun i => (setZ Z wz)[i]?) = (Q.filterMap fun i => Z[i]?).map some := by
    have : ∀ L : List Nat, (∀ i ∈ L, i ∉ ps ∧ i < Z.length) → L.map (fun i => (setZ Z wz)[i]?) = (L.filterMap fun i => Z[i]?).map some := by
      intro L
      induction L with
      | nil => intro _; rfl
      | cons i L ih =>
        intro h
        have hi := h i (by simp)
        rw [List.map_cons, ih fun j hj => h j (by simp [hj]), setZ_ne wz (by rw [hw]; exact hi.1), List.getElem?_eq_getElem hi.2, List.filterMap_cons, List.getElem?_eq_getElem hi.2]
        rfl
    refine this Q fun i hi => ?_
    have := List.mem_filter.1 hi
    simpa using And.comm.1 this
  rw [List.map_append, h3, h4, ← List.map_append] at h2
  have h5 := h2.filterMap id
  simpa [List.filterMap_map] using h5

/-! ### what a value owns becomes objects -/
inductive TW : AV → AV → List Slot → Prop
  | frz {a : AV} : TW a a.frz []
  | lst {t : TypeId} {sz : Nat} {l : List AV} {Y n : Nat} (h : n = l.length) : TW (.lst true t sz l) (.sl Y 0 n) [(Y, .row t sz l)]
  | bx {t : TypeId} {a : AV} {Y n : Nat} (h : n = a.width) : TW (.bx t a) (.ptr Y 0 0) [(Y, .row t n [a])]
inductive TWs : List AV → List AV → List Slot → Prop
  | nil : TWs [] [] []
  | cons {a b : AV} {as bs : List AV} {s r : List Slot} (h : TW a b s) (k : TWs as bs r) : TWs (a :: as) (b :: bs) (s ++ r)
inductive TV : AV → AV → List Slot → Prop
  | cell {a b : AV} {s : List Slot} (h : TW a b s) (ha : cellish a = true) (hb : cellish b = true) : TV a b s
  | agg {as bs : List AV} {s : List Slot} (h : TWs as bs s) : TV (.agg as) (.agg bs) s
inductive TVs : List AV → List AV → List Slot → Prop
  | nil : TVs [] [] []
  | cons {a b : AV} {as bs : List AV} {s r : List Slot} (h : TV a b s) (ha : ntup a = true) (hb : ntup b = true) (k : TVs as bs r) : TVs (a :: as) (b :: bs) (s ++ r)
inductive TR : AV → AV → List Slot → Prop
  | frz {a : AV} : TR a a.frz []
  | v {a b : AV} {s : List Slot} (h : TV a b s) : TR a b s
  | tup {as bs : List AV} {s : List Slot} (h : TVs as bs s) : TR (.tup as) (.tup bs) s
def gones (s : List Slot) : List Slot := s.map fun e => (e.1, .gone)
section
variable {m0 m : Mem} {N : Nat} {R : Zs} {ex : List Nat}
/-- Blocks on the side become a new object at a stamp that was kept. -/
theorem Good.own1 {Y : Nat} {bsY br : List Nat} {t : TypeId} {sz : Nat} {l : List AV} (G : Good m0 m N (((Y, .gone), bsY) :: R) (br ++ ex)) (L : Loc) (hL : L.sz = sz)
    (h : (L.isNil = true ∧ l = [] ∧ br = []) ∨ (L.isNil = false ∧ ∃ arr bs', br = L.blk :: bs' ∧ m.w.heap[L.blk]? = some (.cells arr t (0, 0)) ∧ arr.size = L.cap * sz ∧ l.length ≤ L.cap ∧ L.cap ≤ maxLen ∧ (∀ e ∈ l, e.width = sz) ∧ VCs m l (arr.toList.take (l.length * sz)) bs')) :
    Good m0 ⟨fun y => if y = Y then some L else m.μ y, fun y => m.U y ∨ y = Y, m.w, m.F⟩ N (((Y, .row t sz l), br) :: R) ex ∧ m.Le ⟨fun y => if y = Y then some L else m.μ y, fun y => m.U y ∨ y = Y, m.w, m.F⟩ := by
  have hg := G.obj _ (List.mem_cons_self ..)
  obtain ⟨rfl, hYU⟩ := hg
  have hle : m.Le ⟨fun y => if y = Y then some L else m.μ y, fun y => m.U y ∨ y = Y, m.w, m.F⟩ := by
    refine ⟨fun y h => .inl h, fun y L' hy hL => ?_, fun b hb => ⟨hb, rfl⟩⟩
    simp only at hL
    split at hL
    · rename_i e; subst e; exact absurd hy hYU
    · exact hL
  refine ⟨?_, hle⟩
  have hkN : Y < N := G.keyN Y (by simp [Zs.keys])
  have hown : (br ++ ex).Nodup := by
    have := G.own
    rw [List.nodup_append] at this
    exact this.2.1
  refine Good.swap (zs := [((Y, .gone), [])]) (zs' := [((Y, .row t sz l), br)]) (R := R) G hle (Nat.le_refl _) (fun y hy _ => ?_) (fun _ _ _ _ => rfl) ?_ (by simpa [Zs.own] using hown) (fun b hb => ?_) (fun b hb => ⟨G.frz b hb, .inl hb⟩) (by simp [Zs.keys]) (fun y hy => ?_) (fun y hy => ?_) rfl rfl rfl (Nat.le_refl _)
  · simp only [Zs.keys, List.map_cons, List.map_nil, List.mem_singleton] at hy
    simp only
    rw [if_neg hy]
  · intro z hz
    simp only [List.mem_singleton] at hz
    subst hz
    refine ⟨.inr rfl, L, by simp, hL, ?_⟩
    rcases h with h | ⟨h1, arr, bs', e1, e2, e3, e4, e5, e6, e7⟩
    · exact .inl h
    · exact .inr ⟨h1, arr, bs', e1, e2, e3, e4, e5, e6, VCs.mono hle l (fun _ _ => rfl) e7⟩
  · have hb' : b ∈ br ++ ex := by simpa [Zs.own] using hb
    have := G.blk b (List.mem_append_right _ hb')
    exact ⟨this.1, this.2, .inr (.inl hb')⟩
  · simp only [Zs.keys, List.map_cons, List.map_nil, List.mem_singleton] at hy
    subst hy
    exact ⟨hkN, .inl (by simp [Zs.keys])⟩
  · rcases hy with hy | rfl
    · exact ⟨G.usedN y hy, .inl hy⟩
    · exact ⟨hkN, .inr (.inl (by simp [Zs.keys]))⟩
theorem TW.sound {a b : AV} {s : List Slot} (h : TW a b s) : ∀ {m : Mem} {br ex : List Nat} {G : Zs} {c : List Value}, G.map (·.1) = gones s → Good m0 m N (G ++ R) (br ++ ex) → VC m a c br →
    ∃ m' Z', m'.w = m.w ∧ Z'.map (·.1) = s ∧ Good m0 m' N (Z' ++ R) ex ∧ m.Le m' ∧ VC m' b c [] := by
  intro m br ex G c hG g hv
  cases h with
  | frz =>
    have : G = [] := by simpa [gones] using hG
    subst this
    obtain ⟨G2, hle⟩ := g.freeze _ rfl
    exact ⟨{ m with F := fun b => m.F b ∨ b ∈ br }, [], rfl, rfl, G2, hle, VC.frz hle a (fun b hb => ⟨.inr hb, rfl⟩) hv⟩
  | @lst t sz l Y n hn =>
    cases G with
    | nil => simp [gones] at hG
    | cons z G =>
      simp only [gones, List.map_cons, List.map_nil, List.cons.injEq, List.map_eq_nil_iff] at hG
      obtain ⟨hz, rfl⟩ := hG
      obtain ⟨⟨y, o⟩, bsY⟩ := z
      simp only [Prod.mk.injEq] at hz
      obtain ⟨rfl, rfl⟩ := hz
      rcases hv with ⟨rfl, rfl, rfl⟩ | ⟨gb, cap, arr, bs', rfl, rfl, e1, e2, e3, e4, e5, e6⟩
      · obtain ⟨G', hle⟩ := Good.own1 (br := []) (t := t) (sz := sz) (l := []) g ⟨0, 0, sz, true⟩ rfl (.inl ⟨rfl, rfl, rfl⟩)
        refine ⟨(⟨fun x => if x = y then some ⟨0, 0, sz, true⟩ else m.μ x, fun x => m.U x ∨ x = y, m.w, m.F⟩ : Mem), [((y, .row t sz []), [])], rfl, rfl, G', hle, rfl, .inr rfl, none, 0, by rw [hn]; rfl, fun L hL => ?_⟩
        simp only [if_true, Option.some.injEq] at hL
        subst hL
        exact .inl ⟨rfl, by rw [hn]; rfl, rfl, hn⟩
      · obtain ⟨G', hle⟩ := Good.own1 (br := gb :: bs') (t := t) (sz := sz) (l := l) g ⟨gb, cap, sz, false⟩ rfl (.inr ⟨rfl, arr, bs', rfl, e1, e2, e3, e4, e5, e6⟩)
        refine ⟨(⟨fun x => if x = y then some ⟨gb, cap, sz, false⟩ else m.μ x, fun x => m.U x ∨ x = y, m.w, m.F⟩ : Mem), [((y, .row t sz l), gb :: bs')], rfl, rfl, G', hle, rfl, .inr rfl, _, cap, by rw [hn], fun L hL => ?_⟩
        simp only [if_true, Option.some.injEq] at hL
        subst hL
        exact .inr ⟨rfl, by simp only; omega, 0, by simp, fun _ => by simp⟩
  | @bx t a Y n hn =>
    cases G with
    | nil => simp [gones] at hG
    | cons z G =>
      simp only [gones, List.map_cons, List.map_nil, List.cons.injEq, List.map_eq_nil_iff] at hG
      obtain ⟨hz, rfl⟩ := hG
      obtain ⟨⟨y, o⟩, bsY⟩ := z
      simp only [Prod.mk.injEq] at hz
      obtain ⟨rfl, rfl⟩ := hz
      obtain ⟨gb, arr, bs', rfl, rfl, e1, ⟨cap, e2, e3, e4⟩, e5⟩ := hv
      subst hn
      obtain ⟨G', hle⟩ := Good.own1 (br := gb :: bs') (t := t) (sz := a.width) (l := [a]) g ⟨gb, cap, a.width, false⟩ rfl (.inr ⟨rfl, arr, bs', rfl, e1, e2, e3, e4, fun e he => by rw [List.mem_singleton.1 he], by simpa using VCs.one.2 e5⟩)
      refine ⟨(⟨fun x => if x = y then some ⟨gb, cap, a.width, false⟩ else m.μ x, fun x => m.U x ∨ x = y, m.w, m.F⟩ : Mem), [((y, .row t a.width [a]), gb :: bs')], rfl, rfl, G', hle, rfl, .inr rfl, _, rfl, fun L hL => ?_⟩
      simp only [if_true, Option.some.injEq] at hL
      subst hL
      simp
theorem TWs.sound {as bs : List AV} {s : List Slot} (h : TWs as bs s) : ∀ {R : Zs} {m : Mem} {br ex : List Nat} {G : Zs} {c : List Value}, G.map (·.1) = gones s → Good m0 m N (G ++ R) (br ++ ex) → VCs m as c br →
    ∃ m' Z', m'.w = m.w ∧ Z'.map (·.1) = s ∧ Good m0 m' N (Z' ++ R) ex ∧ m.Le m' ∧ VCs m' bs c [] := by
  induction h with
  | nil =>
    intro R m br ex G c hG g hv
    obtain ⟨rfl, rfl⟩ := hv
    have : G = [] := by simpa [gones] using hG
    subst this
    exact ⟨m, [], rfl, rfl, g, .refl _, rfl, rfl⟩
  | @cons a b as bs s r h k ih =>
    intro R m br ex G c hG g hv
    obtain ⟨c1, c2, b1, b2, rfl, rfl, h1, h2⟩ := hv
    rw [gones, List.map_append] at hG
    obtain ⟨G1, G2, rfl, hG1, hG2⟩ := slots_split hG
    obtain ⟨m1, Z1, hw1, hZ1, g1, hle1, v1⟩ := h.sound (R := G2 ++ R) (ex := b2 ++ ex) hG1 (by simpa using g) h1
    have g1' : Good m0 m1 N (G2 ++ (Z1 ++ R)) (b2 ++ ex) := g1.perm (by
      rw [← List.append_assoc, ← List.append_assoc]
      exact List.Perm.append_right _ List.perm_append_comm)
    obtain ⟨m2, Z2, hw2, hZ2, g2, hle2, v2⟩ := ih (R := Z1 ++ R) hG2 g1' (VCs.mono hle1 as (fun b _ => by rw [hw1]) h2)
    refine ⟨m2, Z1 ++ Z2, hw2.trans hw1, by simp [hZ1, hZ2], g2.perm (by
      rw [← List.append_assoc]
      exact List.Perm.append_right _ List.perm_append_comm), hle1.trans hle2, c1, c2, [], [], rfl, rfl, VC.mono hle2 b (fun _ hb => by cases hb) v1, v2⟩
theorem TV.sound {a b : AV} {s : List Slot} (h : TV a b s) : ∀ {R : Zs} {m : Mem} {br ex : List Nat} {G : Zs} {u : Value}, G.map (·.1) = gones s → Good m0 m N (G ++ R) (br ++ ex) → VV m a u br →
    ∃ m' Z', m'.w = m.w ∧ Z'.map (·.1) = s ∧ Good m0 m' N (Z' ++ R) ex ∧ m.Le m' ∧ VV m' b u [] := by
  intro R m br ex G u hG g hv
  cases h with
  | cell h ha hb =>
    obtain ⟨m', Z', h1, h2, h3, h4, h5⟩ := h.sound hG g ((VV.of_vc ha).1 hv)
    exact ⟨m', Z', h1, h2, h3, h4, (VV.of_vc hb).2 h5⟩
  | agg h =>
    obtain ⟨cells, rfl, hv⟩ := hv
    obtain ⟨m', Z', h1, h2, h3, h4, h5⟩ := h.sound hG g hv
    exact ⟨m', Z', h1, h2, h3, h4, cells, rfl, h5⟩
theorem TVs.sound {as bs : List AV} {s : List Slot} (h : TVs as bs s) : ∀ {R : Zs} {m : Mem} {br ex : List Nat} {G : Zs} {us : List Value}, G.map (·.1) = gones s → Good m0 m N (G ++ R) (br ++ ex) → VTs m as us br →
    ∃ m' Z', m'.w = m.w ∧ Z'.map (·.1) = s ∧ Good m0 m' N (Z' ++ R) ex ∧ m.Le m' ∧ VTs m' bs us [] := by
  induction h with
  | nil =>
    intro R m br ex G c hG g hv
    obtain ⟨rfl, rfl⟩ := hv
    have : G = [] := by simpa [gones] using hG
    subst this
    exact ⟨m, [], rfl, rfl, g, .refl _, rfl, rfl⟩
  | @cons a b as bs s r h ha hb k ih =>
    intro R m br ex G c hG g hv
    obtain ⟨u, us, b1, b2, rfl, rfl, h1, h2⟩ := (VTs_cons ha).1 hv
    rw [gones, List.map_append] at hG
    obtain ⟨G1, G2, rfl, hG1, hG2⟩ := slots_split hG
    obtain ⟨m1, Z1, hw1, hZ1, g1, hle1, v1⟩ := h.sound (R := G2 ++ R) (ex := b2 ++ ex) hG1 (by simpa using g) h1
    have g1' : Good m0 m1 N (G2 ++ (Z1 ++ R)) (b2 ++ ex) := g1.perm (by
      rw [← List.append_assoc, ← List.append_assoc]
      exact List.Perm.append_right _ List.perm_append_comm)
    obtain ⟨m2, Z2, hw2, hZ2, g2, hle2, v2⟩ := ih (R := Z1 ++ R) hG2 g1' (VTs.mono hle1 as (fun b _ => by rw [hw1]) h2)
    refine ⟨m2, Z1 ++ Z2, hw2.trans hw1, by simp [hZ1, hZ2], g2.perm (by
      rw [← List.append_assoc]
      exact List.Perm.append_right _ List.perm_append_comm), hle1.trans hle2, (VTs_cons hb).2 ⟨u, us, [], [], rfl, rfl, VV.mono hle2 (fun _ hb => by cases hb) v1, v2⟩⟩
theorem TR.sound {a b : AV} {s : List Slot} (h : TR a b s) {R : Zs} {m : Mem} {br ex : List Nat} {G : Zs} {u : Value} (hG : G.map (·.1) = gones s) (g : Good m0 m N (G ++ R) (br ++ ex)) (hv : VV m a u br) :
    ∃ m' Z', m'.w = m.w ∧ Z'.map (·.1) = s ∧ Good m0 m' N (Z' ++ R) ex ∧ m.Le m' ∧ VV m' b u [] := by
  cases h with
  | frz =>
    have : G = [] := by simpa [gones] using hG
    subst this
    obtain ⟨G2, hle⟩ := g.freeze _ rfl
    exact ⟨{ m with F := fun b => m.F b ∨ b ∈ br }, [], rfl, rfl, G2, hle, VV.frz hle (fun b hb => ⟨.inr hb, rfl⟩) hv⟩
  | v h => exact h.sound hG g hv
  | tup h =>
    obtain ⟨us, rfl, hv⟩ := hv
    obtain ⟨m', Z', h1, h2, h3, h4, h5⟩ := h.sound hG g hv
    exact ⟨m', Z', h1, h2, h3, h4, us, rfl, h5⟩
end

theorem setZ_same {β : Type} (wz : List (Nat × β)) : ∀ Z : List β, (∀ q ∈ wz, Z[q.1]? = some q.2) → setZ Z wz = Z := by
  induction wz with
  | nil => intro Z _; rfl
  | cons q r ih =>
    intro Z h
    have h1 := h q (by simp)
    obtain ⟨h2, h3⟩ := List.getElem?_eq_some_iff.1 h1
    have : Z.set q.1 q.2 = Z := by rw [← h3]; exact List.set_getElem_self h2
    rw [setZ, this]
    exact ih Z fun q hq => h q (by simp [hq])
section
variable {P : Program} {ty : TypeId} {pos : String} {after : Array Edge} {g : Option (Nat × Bool)} {dst : Option Tmp} {xs : List (Operand × AV)} {f : FuncId} {ats : Array TypeId} {r v : AV} {Sin Sout news : List Slot} {rS wS : List (Nat × Slot)}
/-- What a call does to a state: for a callee by name or a closure; the result may be one of several. -/
theorem callG_runE {β : Type} {C : β → Prop} {rr vv : β → AV} {So nw : β → List Slot} {gs : List Slot} {wE : β → List (Nat × Slot)} {nt : Nat} {m0 : Mem} {T : List (Nat × AV)} {S : List Slot} {a : Act} {args : List AV} {vals : Array Value} (h : Spec P f args Sin fun r' S' => ∃ b, C b ∧ r' = rr b ∧ S' = So b) (hT : ∀ b, TR (rr b) (vv b) (nw b)) (hgs : ∀ b, gones (nw b) = gs) (hr : rS.map (·.2) = Sin ++ gs) (hw : ∀ b, (wE b).map (·.2) = So b ++ nw b) (hp : ∀ b, (wE b).map (·.1) = rS.map (·.1)) (hnd : (rS.map (·.1)).Nodup)
    (hS : ∀ q ∈ rS, S[q.1]? = some q.2) (hd : ∀ d, dst = some d → d < nt) {m : Mem} {N : Nat} {Z : Zs} (h2 : Z.map (·.1) = S) (h3 : Good m0 m N Z []) (h4 : TRel m0 m nt T a) (hv : VTs m args vals.toList []) :
    Calls P f vals m.w fun e w' => ∃ u, e = .returned u ∧ ∃ b, C b ∧ Rel nt m0 ⟨putD T dst (vv b), setAll S (wE b)⟩ (a.put dst u) w' := by
  obtain ⟨RS, hR⟩ := perm_gets S (rS.map (·.1)) hnd (fun p hp => by
    obtain ⟨q, hq, rfl⟩ := List.mem_map.1 hp
    exact (List.getElem?_eq_some_iff.1 (hS q hq)).1)
  have p1 := hR rS rfl
  rw [setZ_same rS S hS, hr, List.append_assoc] at p1
  obtain ⟨Z1, hz1, hz2⟩ := perm_lift (fun z : Slot × List Nat => z.1) p1 h2
  refine (h.run _ m N Z1 vals hz2 (h3.perm hz1).self hv).mono ?_
  rintro e w' ⟨u, r', S', m', N', Z', br, rfl, rfl, hm, G', hu, b, hb, rfl, rfl⟩
  have p2 := hR (wE b) (hp b)
  rw [hw, List.append_assoc, ← setAll_setZ] at p2
  obtain ⟨Zo, Zr, rfl, ho, hzr⟩ := slots_split hm
  obtain ⟨Zg, Zf, rfl, hg, hf⟩ := slots_split hzr
  have G1 := h3.perm hz1 |>.after G'
  have G2 : Good m0 m' N' (Zg ++ (Zo ++ Zf)) (br ++ []) := by
    have := G1.perm (Z' := Zg ++ (Zo ++ Zf)) (by
      rw [← List.append_assoc, ← List.append_assoc]
      exact List.Perm.append_right _ List.perm_append_comm)
    simpa using this
  obtain ⟨m2, Zn, hw2, hn, G3, hle, hv2⟩ := (hT b).sound (hg.trans (hgs b).symm) G2 hu
  have G4 := G3.perm (Z' := Zo ++ (Zn ++ Zf)) (by
    rw [← List.append_assoc, ← List.append_assoc]
    exact List.Perm.append_right _ List.perm_append_comm)
  obtain ⟨Z3, hz3, hz4⟩ := perm_lift (fun z : Slot × List Nat => z.1) (S' := setAll S (wE b)) p2.symm (Z := Zo ++ (Zn ++ Zf)) (by simp [ho, hn, hf])
  exact ⟨u, rfl, b, hb, m2, N', Z3, hw2, hz4, G4.perm hz3, ((h4.mono G'.le).mono hle).put hd hv2⟩
theorem callG_run {nt : Nat} {m0 : Mem} {T : List (Nat × AV)} {S : List Slot} {a : Act} {args : List AV} {vals : Array Value} (h : Spec P f args Sin fun r' S' => r' = r ∧ S' = Sout) (hT : TR r v news) (hr : rS.map (·.2) = Sin ++ gones news) (hw : wS.map (·.2) = Sout ++ news) (hp : wS.map (·.1) = rS.map (·.1)) (hnd : (rS.map (·.1)).Nodup)
    (hS : ∀ q ∈ rS, S[q.1]? = some q.2) (hd : ∀ d, dst = some d → d < nt) {m : Mem} {N : Nat} {Z : Zs} (h2 : Z.map (·.1) = S) (h3 : Good m0 m N Z []) (h4 : TRel m0 m nt T a) (hv : VTs m args vals.toList []) :
    Calls P f vals m.w fun e w' => ∃ u, e = .returned u ∧ Rel nt m0 ⟨putD T dst v, setAll S wS⟩ (a.put dst u) w' :=
  (callG_runE (β := Unit) (C := fun _ => True) (rr := fun _ => r) (vv := fun _ => v) (So := fun _ => Sout) (nw := fun _ => news) (wE := fun _ => wS) (h.mono fun r' S' ⟨e1, e2⟩ => ⟨(), trivial, e1, e2⟩) (fun _ => hT) (fun _ => rfl) hr (fun _ => hw) (fun _ => hp) hnd hS hd h2 h3 h4 hv).mono fun e w' ⟨u, e1, _, _, k⟩ => ⟨u, e1, k⟩
theorem wpIn_fwE {β : Type} {C : β → Prop} {sE : β → St} {ro : Option Nat} {nt : Nat} {m0 : Mem} {o : Oper} {a : Act} {w : World} {K : Act → World → Prop} {Q : Exit → Act → World → Prop} (hnd : ∀ c, o.op ≠ .defer c) (h : o.wp P a w (fun a' w' => ∃ b, C b ∧ Rel nt m0 (sE b) a' w') (fun _ _ _ => False)) (hK : ∀ a' w', (∃ b, C b ∧ Rel nt m0 (sE b) a' w') → K a' w') : o.wpIn (FW ro) 0 P a w K Q := by
  refine ⟨fun _ _ => trivial, ?_⟩
  rw [show o.semAt (FW ro).round a.eval = execOp a.eval o from Oper.semAt_eq _ _ _ hnd]
  unfold Oper.wp at h
  cases hr : (execOp a.eval o).run P w with
  | ok n w' =>
    rw [hr] at h
    cases n <;> simp only [Oper.upon, Oper.uponIn] at h ⊢ <;>
      first
        | exact hK _ _ h
        | exact ⟨fun h => (by simp [FW, Fence.wide] at h), CallsIn.mono (calls_fw h) (fun e w'' he => by cases e <;> first | exact hK _ _ he | exact he.elim | exact (by obtain ⟨_, _, hh⟩ := he; exact hh.elim))⟩
        | exact ⟨fun h => (by simp [FW, Fence.wide] at h), RowsIn.mono (rows_fw h) (fun _ _ he => hK _ _ he)⟩
  | halt x w' => rw [hr] at h; cases x <;> simp only [Oper.upon] at h
theorem OpT.callG (h : Spec P f (xs.map (·.2)) Sin fun r' S' => r' = r ∧ S' = Sout) (ht : noTup xs = true) (hT : TR r v news) (hr : rS.map (·.2) = Sin ++ gones news) (hw : wS.map (·.2) = Sout ++ news) (hp : wS.map (·.1) = rS.map (·.1)) (hnd : (rS.map (·.1)).Nodup) :
    OpT P ⟨dst, .call ⟨.value (.func f), (xs.map (·.1)).toArray, ats⟩, ty, pos, after, g⟩ xs rS v wS := by
  intro nt m0 T S a w hx hS hd hrel
  obtain ⟨m, N, Z, rfl, h2, h3, h4⟩ := hrel
  refine wp_call (fun _ => rfl) h.fn ?_
  exact callG_run h hT hr hw hp hnd hS hd h2 h3 h4 (by have := vts_of (noTup_spec ht) fun q hq => h4.ev (hx q hq); simpa [Function.comp_def] using this)
inductive Pos (S : List Slot) : List Slot → List Slot → List (Nat × Slot) → List (Nat × Slot) → Prop
  | nil : Pos S [] [] [] []
  | cons {a b : Slot} {as bs : List Slot} {rs ws : List (Nat × Slot)} {p : Nat} (h : At S p a) (k : Pos S as bs rs ws) : Pos S (a :: as) (b :: bs) ((p, a) :: rs) ((p, b) :: ws)
theorem Pos.all {S as bs : List Slot} {rs ws : List (Nat × Slot)} (h : Pos S as bs rs ws) : rs.map (·.2) = as ∧ ws.map (·.2) = bs ∧ ws.map (·.1) = rs.map (·.1) ∧ Gets S rs := by
  induction h with
  | nil => exact ⟨rfl, rfl, rfl, .nil⟩
  | cons h k ih => exact ⟨by simp [ih.1], by simp [ih.2.1], by simp [ih.2.2.1], .cons h ih.2.2.2⟩
/-- A call of which the result is one of several. -/
theorem AOps.callE {β : Type} {C : β → Prop} {rr vv : β → AV} {So nw : β → List Slot} {gs : List Slot} {wE : β → List (Nat × Slot)} {nt : Nat} {ops : Array Oper} {Q : Exit → St → Prop} {rest : List Oper} {T : List (Nat × AV)} {S : List Slot} (h : Spec P f (xs.map (·.2)) Sin fun r' S' => ∃ b, C b ∧ r' = rr b ∧ S' = So b) (hT : ∀ b, TR (rr b) (vv b) (nw b)) (hgs : ∀ b, gones (nw b) = gs) (hpos : ∀ b, Pos S (Sin ++ gs) (So b ++ nw b) rS (wE b)) (hnd : (rS.map (·.1)).Nodup) (hr : rS.map (·.2) = Sin ++ gs) (hG : Gets S rS) (hx : Evs T xs) (ht : noTup xs = true) (hd : dstOk dst nt = true)
    (k : ∀ b, C b → AOps ro P nt ops Q rest ⟨putD T dst (vv b), setAll S (wE b)⟩) : AOps ro P nt ops Q (⟨dst, .call ⟨.value (.func f), (xs.map (·.1)).toArray, ats⟩, ty, pos, after, none⟩ :: rest) ⟨T, S⟩ := by
  rintro m0 a w ⟨m, N, Z, rfl, h2, h3, h4⟩
  refine wpListIn_plain rfl fun K hK => wpIn_fwE (C := C) (sE := fun b => ⟨putD T dst (vv b), setAll S (wE b)⟩) (by simp) (wp_call (fun _ => rfl) h.fn (callG_runE h hT hgs hr (fun b => (hpos b).all.2.1) (fun b => (hpos b).all.2.2.1) hnd hG.all (dstOk_lt hd) h2 h3 h4 ?_)) fun a' w' ⟨b, hb, hrel⟩ => hK _ _ (k b hb m0 _ _ hrel)
  have := vts_of (noTup_spec ht) fun q hq => h4.ev (hx.all q hq)
  simpa [Function.comp_def] using this
theorem TR.fz {r v : AV} [h : Frz r v] : TR r v [] := h.h ▸ .frz
theorem TR.ls {t : TypeId} {sz : Nat} {l : List AV} {Y : Nat} : TR (.lst true t sz l) (.sl Y 0 l.length) [(Y, .row t sz l)] := .v (.cell (.lst rfl) rfl rfl)
end
section
variable {m0 m : Mem} {N : Nat} {R : Zs} {ex : List Nat}
end
section
variable {nt : Nat} {st : St}
end
end Go.Proofs.Ytbfcbfgpbbkecaa

namespace Go.Proofs.Ytbfcbfgpbbkecaa
set_option linter.unusedVariables false
variable {ro : Option Nat}
theorem Pos.f {S as bs : List Slot} {rs ws : List (Nat × Slot)} (h : Pos S as bs rs ws := by (repeat (first | exact .nil | (apply Pos.cons; exact At.f)))) : Pos S as bs rs ws := h
section
variable {P : Program} {nt : Nat} {ops : Array Oper} {Q : Exit → St → Prop} {l rest : List Oper} {acc : List Eff} {T : List (Nat × AV)} {S : List Slot} {rS wS : List (Nat × Slot)} {v : AV} {ty : TypeId} {pos : String} {after : Array Edge} {dst : Option Tmp} {ats : Array TypeId} {f : FuncId} {r : AV} {Sin Sout news : List Slot} {c : Option (List Bool)} {code : Code}
def nodupB : List Nat → Bool
  | [] => true
  | a :: l => !(l.any (Nat.beq a)) && nodupB l
theorem nodupB_spec : ∀ {l : List Nat}, nodupB l = true → l.Nodup
  | [], _ => .nil
  | a :: l, h => by
    simp only [nodupB, Bool.and_eq_true, Bool.not_eq_true', List.any_eq_false] at h
    exact List.nodup_cons.2 ⟨fun hm => h.1 a hm (by simp), nodupB_spec h.2⟩
theorem W.callZ1 {x0 : Operand} {v0 : AV} {g : Option (Nat × Bool)} (h0 : Rd c T x0 v0) (h : Spec P f ([v0]) Sin fun r' S' => r' = r ∧ S' = Sout) (hT : TR r v news) (hpos : Pos S (Sin ++ gones news) (Sout ++ news) rS wS) (hnd : nodupB (rS.map (·.1)) = true) (ht : noTup [(x0, v0)] = true) : Stp c P ⟨dst, .call ⟨.value (.func f), #[x0], ats⟩, ty, pos, after, g⟩ T S [(x0, v0)] rS v wS := ⟨OpT.callG (xs := [(x0, v0)]) h ht hT hpos.all.1 hpos.all.2.1 hpos.all.2.2.1 (nodupB_spec hnd), (.cons h0 .nil), hpos.all.2.2.2⟩
theorem AOps.z1 {x0 : Operand} {v0 : AV} (h : Spec P f ([v0]) Sin fun r' S' => r' = r ∧ S' = Sout) (hT : TR r v news) (k : AOps ro P nt ops Q rest ⟨putD T dst v, setAll S wS⟩) (h0 : Rd none T x0 v0 := by rfl) (hpos : Pos S (Sin ++ gones news) (Sout ++ news) rS wS := by exact Pos.f) (hnd : nodupB (rS.map (·.1)) = true := by rfl) (ht : noTup [(x0, v0)] = true := by rfl) (hd : dstOk dst nt = true := by rfl) : AOps ro P nt ops Q (⟨dst, .call ⟨.value (.func f), #[x0], ats⟩, ty, pos, after, none⟩ :: rest) ⟨T, S⟩ := AOps.s (W.callZ1 h0 h hT hpos hnd ht) hd k
theorem W.callZ2 {x0 : Operand} {v0 : AV} {x1 : Operand} {v1 : AV} {g : Option (Nat × Bool)} (h0 : Rd c T x0 v0) (h1 : Rd c T x1 v1) (h : Spec P f ([v0, v1]) Sin fun r' S' => r' = r ∧ S' = Sout) (hT : TR r v news) (hpos : Pos S (Sin ++ gones news) (Sout ++ news) rS wS) (hnd : nodupB (rS.map (·.1)) = true) (ht : noTup [(x0, v0), (x1, v1)] = true) : Stp c P ⟨dst, .call ⟨.value (.func f), #[x0, x1], ats⟩, ty, pos, after, g⟩ T S [(x0, v0), (x1, v1)] rS v wS := ⟨OpT.callG (xs := [(x0, v0), (x1, v1)]) h ht hT hpos.all.1 hpos.all.2.1 hpos.all.2.2.1 (nodupB_spec hnd), (.cons h0 (.cons h1 .nil)), hpos.all.2.2.2⟩
theorem AOps.z2 {x0 : Operand} {v0 : AV} {x1 : Operand} {v1 : AV} (h : Spec P f ([v0, v1]) Sin fun r' S' => r' = r ∧ S' = Sout) (hT : TR r v news) (k : AOps ro P nt ops Q rest ⟨putD T dst v, setAll S wS⟩) (h0 : Rd none T x0 v0 := by rfl) (h1 : Rd none T x1 v1 := by rfl) (hpos : Pos S (Sin ++ gones news) (Sout ++ news) rS wS := by exact Pos.f) (hnd : nodupB (rS.map (·.1)) = true := by rfl) (ht : noTup [(x0, v0), (x1, v1)] = true := by rfl) (hd : dstOk dst nt = true := by rfl) : AOps ro P nt ops Q (⟨dst, .call ⟨.value (.func f), #[x0, x1], ats⟩, ty, pos, after, none⟩ :: rest) ⟨T, S⟩ := AOps.s (W.callZ2 h0 h1 h hT hpos hnd ht) hd k
theorem RGo.z2 {x0 : Operand} {v0 : AV} {x1 : Operand} {v1 : AV} {g : Option (Nat × Bool)} {ts : List Nat} (h : Spec P f ([v0, v1]) Sin fun r' S' => r' = r ∧ S' = Sout) (hT : TR r v news) (k : RGo P nt ops l Q rest (acc ++ [⟨⟨dst, .call ⟨.value (.func f), #[x0, x1], ats⟩, ty, pos, after, g⟩, ts ++ tmpsOf [(x0, v0), (x1, v1)], rS.map (·.1), v, wS⟩]) ⟨putD T dst v, setAll S wS⟩) (h0 : Rd none T x0 v0 := by rfl) (h1 : Rd none T x1 v1 := by rfl) (hpos : Pos S (Sin ++ gones news) (Sout ++ news) rS wS := by exact Pos.f) (hnd : nodupB (rS.map (·.1)) = true := by rfl) (ht : noTup [(x0, v0), (x1, v1)] = true := by rfl) (hd : dstOk dst nt = true := by rfl) (hg : Grd ops T g ts := by first | exact .none | exact .met rfl rfl (by first | rfl | assumption)) : RGo P nt ops l Q (⟨dst, .call ⟨.value (.func f), #[x0, x1], ats⟩, ty, pos, after, g⟩ :: rest) acc ⟨T, S⟩ := RGo.sg (W.callZ2 h0 h1 h hT hpos hnd ht) hd hg k
end
end Go.Proofs.Ytbfcbfgpbbkecaa

namespace Go.Proofs.Ytbfcbfgpbbkecaa
set_option linter.unusedVariables false
variable {ro : Option Nat}
section
variable {P : Program} {nt : Nat} {c : Code} {ops : Array Oper} {rest : List Oper} {Q : Exit → St → Prop} {T : List (Nat × AV)} {S : List Slot} {p n X sz : Nat} {t : TypeId} {l : List AV}
end
end Go.Proofs.Ytbfcbfgpbbkecaa

namespace Go.Proofs.Ytbfcbfgpbbkecaa
set_option linter.unusedVariables false
set_option linter.unusedSimpArgs false
variable {ro : Option Nat}
open Go.RowKit
section
variable {P : Program} {m0 m : Mem} {N : Nat} {R : Zs} {ex : List Nat} {X sz : Nat} {l : List AV} {t t' te ty : TypeId} {x y : Operand} {pos : String} {after : Array Edge} {g : Option (Nat × Bool)} {dst : Option Tmp} {p : Nat}
end
section
variable {P : Program} {nt : Nat} {c : Code} {ops : Array Oper} {rest : List Oper} {Q : Exit → St → Prop} {T : List (Nat × AV)} {S : List Slot} {p n X sz off by_ : Nat} {t te tx ty : TypeId} {l : List AV} {x y : Operand} {dst : Option Tmp} {pos : String} {after : Array Edge} {k : IntKind} {q : Int} {t' : TypeId}
end
end Go.Proofs.Ytbfcbfgpbbkecaa

namespace Go.Proofs.Ytbfcbfgpbbkecaa
set_option linter.unusedVariables false
variable {ro : Option Nat}
section
variable {P : Program} {nt : Nat} {c d : Code} {Q : Exit → St → Prop} {T : List (Nat × AV)} {S : List Slot} {p q n X Y sz sz2 : Nat} {t t2 : TypeId} {l l2 l2' : List AV} {st : St}
end
theorem AWP.joinS {P : Program} {nt : Nat} {c d : Code} {Q Q2 : Exit → St → Prop} {st : St} {β : Type} (R : β → Prop) (inv : β → St) (h1 : AWP ro P nt c (fun e st' => e = .normal ∧ ∃ b, R b ∧ st'.Le (inv b)) st) (h2 : ∀ b, R b → AWP ro P nt d Q (inv b)) : AWP ro P nt c (andThen (AWP ro P nt d Q) Q2) st :=
  h1.mono fun e st' ⟨he, b, hb, hle⟩ => by subst he; exact AWP.weak hle (h2 b hb)
end Go.Proofs.Ytbfcbfgpbbkecaa

namespace Go.Proofs.Ytbfcbfgpbbkecaa
set_option linter.unusedVariables false
variable {ro : Option Nat}
section
variable {P : Program} {nt : Nat} {c : Code} {ops : Array Oper} {rest : List Oper} {Q : Exit → St → Prop} {T : List (Nat × AV)} {S : List Slot} {p q n X Y sz sz2 : Nat} {t t2 : TypeId} {l l2 l2' : List AV} {st : St}
end
section
variable {P : Program} {dst : Option Tmp} {ty t ty2 : TypeId} {pos : String} {after : Array Edge} {g : Option (Nat × Bool)} {T : List (Nat × AV)} {S : List Slot} {c : Option (List Bool)} {x y : Operand} {i j : Int}
theorem W.subE (k : Int) (h : i - j = k) (hr : -9223372036854775808 ≤ k ∧ k ≤ 9223372036854775807) (hx : Rd c T x (.prim (.int .i64 i))) (hy : Rd c T y (.prim (.int .i64 j))) : Stp c P ⟨dst, .binOp .sub t x y ty2, ty, pos, after, g⟩ T S [(x, .prim (.int .i64 i)), (y, .prim (.int .i64 j))] [] (.prim (.int .i64 k)) [] := h ▸ W.sub hx hy (h ▸ hr)
theorem W.addE (k : Int) (h : i + j = k) (hr : -9223372036854775808 ≤ k ∧ k ≤ 9223372036854775807) (hx : Rd c T x (.prim (.int .i64 i))) (hy : Rd c T y (.prim (.int .i64 j))) : Stp c P ⟨dst, .binOp .add t x y ty2, ty, pos, after, g⟩ T S [(x, .prim (.int .i64 i)), (y, .prim (.int .i64 j))] [] (.prim (.int .i64 k)) [] := h ▸ W.add hx hy (h ▸ hr)
end
section
variable {P : Program} {dst : Option Tmp} {ty t ty2 : TypeId} {pos : String} {after : Array Edge} {g : Option (Nat × Bool)} {T : List (Nat × AV)} {S : List Slot} {c : Option (List Bool)} {x y : Operand} {a b : Bool}
end
end Go.Proofs.Ytbfcbfgpbbkecaa

namespace Go.Proofs.Ytbfcbfgpbbkecaa
set_option linter.unusedVariables false
section
variable {P : Program} {nt : Nat} {ops : Array Oper} {Q : Exit → St → Prop} {rest : List Oper} {T : List (Nat × AV)} {S : List Slot} {op : Op} {ty : TypeId} {pos : String} {after : Array Edge} {dst : Option Tmp} {l : List Oper} {acc : List Eff}
/-- What stands for an operation that is left out: nothing that a guard takes for met. -/
abbrev noA : AV := .opt false (.prim (.bool false))
theorem RGo.goNU {g : Nat} {b b' : Bool} {t : Nat} (k : RGo P nt ops l Q rest (acc ++ [⟨⟨dst, op, ty, pos, after, some (g, b)⟩, [t], [], noA, []⟩]) ⟨putD T dst noA, S⟩) (ht : (ops[g]?).bind (·.dst) = some t := by rfl) (hv : look T t = some (.prim (.bool b')) := by rfl) (hb : b' = !b := by first | rfl | assumption | (simp only [Bool.not_true, Bool.not_false]; assumption)) (hd : dstOk dst nt = true := by rfl) : RGo P nt ops l Q (⟨dst, op, ty, pos, after, some (g, b)⟩ :: rest) acc ⟨T, S⟩ := by
  have e : (b' == b) = false := by rw [hb]; cases b <;> rfl
  refine RGo.step_ (fun r => ?_) k
  have := Run.stepQ (P := P) (nt := nt) (ops := ops) (o := ⟨dst, op, ty, pos, after, some (g, b)⟩) (st := ⟨T, S⟩) (xs := []) (rS := []) (v := .prim (.bool false)) (cs := []) rfl ht hv rfl (fun h => absurd (h (b' == b) (by simp)) (by rw [e]; simp)) .nil .nil hd rfl (by rw [e]; exact r)
  rw [e] at this
  exact this
end
end Go.Proofs.Ytbfcbfgpbbkecaa

namespace Go.Proofs.Ytbfcbfgpbbkecaa
set_option linter.unusedVariables false
section
variable {P : Program} {dst : Option Tmp} {ty t ty2 : TypeId} {pos : String} {after : Array Edge} {g : Option (Nat × Bool)} {T : List (Nat × AV)} {S : List Slot} {c : Option (List Bool)} {x y : Operand}
theorem OpT.shr {k k' : IntKind} {i j : Int} {n : Nat} (hj : j = (n : Int)) (hn : n ≤ k.bits) : OpT P ⟨dst, .binOp .shr t x y ty2, ty, pos, after, g⟩ [(x, .prim (.int k i)), (y, .prim (.int k' j))] [] (.prim (.int k (i.fdiv (2 ^ n)))) [] :=
  run_binOp rfl (fun w => by
    subst hj
    have h : ¬ ((n : Int) < 0) := by omega
    simp [binOp, Op.shift, h, Sem.run_pure, Nat.min_eq_left hn]) (.inl ⟨by simp, by simp⟩)
end
end Go.Proofs.Ytbfcbfgpbbkecaa

namespace Go.Proofs.Ytbfcbfgpbbkecaa
set_option linter.unusedVariables false
open Go.RowKit
section
variable {m0 m : Mem} {N : Nat} {X sz : Nat} {t : TypeId} {l : List AV} {R : Zs} {ex : List Nat}
end
section
variable {P : Program} {dst : Option Tmp} {ty t te t2 : TypeId} {pos : String} {after : Array Edge} {g : Option (Nat × Bool)} {x y : Operand} {p q r sz X Y Z : Nat} {l l2 : List AV}
end
section
variable {ro : Option Nat} {P : Program} {nt p sz X : Nat} {t : TypeId} {l : List AV}
end
end Go.Proofs.Ytbfcbfgpbbkecaa

namespace Go.Proofs.Ytbfcbfgpbbkecaa
set_option linter.unusedVariables false
open Go.RowKit
section
variable {P : Program} {dst : Option Tmp} {ty t te tx : TypeId} {pos : String} {after : Array Edge} {g : Option (Nat × Bool)} {x y : Operand} {p q r sz X Y Z : Nat} {l : List AV}
end
end Go.Proofs.Ytbfcbfgpbbkecaa

namespace Go.Proofs.Ytbfcbfgpbbkecaa
set_option linter.unusedVariables false
open Go.RowKit
section
variable {P : Program} {dst : Option Tmp} {ty t te tx : TypeId} {pos : String} {after : Array Edge} {g : Option (Nat × Bool)} {x y : Operand} {p q r sz X Y Z V : Nat} {l l2 : List AV}
end
section
variable {P : Program} {dst : Option Tmp} {ty t te tx ty2 : TypeId} {pos : String} {after : Array Edge} {g : Option (Nat × Bool)} {x y : Operand} {p q r sz X Y Z V by_ : Nat} {l l2 : List AV} {T : List (Nat × AV)} {S : List Slot} {c : Option (List Bool)} {k k' k0 : IntKind} {qi qj : Int}
theorem W.shr (n : Nat) (hx : Rd c T x (.prim (.int k qi))) (hy : Rd c T y (.prim (.int k' qj))) (hj : qj = (n : Int)) (hn : n ≤ k.bits) :
    Stp c P ⟨dst, .binOp .shr t x y ty2, ty, pos, after, g⟩ T S [(x, .prim (.int k qi)), (y, .prim (.int k' qj))] [] (.prim (.int k (qi.fdiv (2 ^ n)))) [] := ⟨.shr hj hn, .cons hx (.cons hy .nil), .nil⟩
end
end Go.Proofs.Ytbfcbfgpbbkecaa

namespace Go.Proofs.Ytbfcbfgpbbkecaa
set_option linter.unusedVariables false
section
variable {P : Program} {dst : Option Tmp} {ty t ty2 : TypeId} {pos : String} {after : Array Edge} {g : Option (Nat × Bool)} {T : List (Nat × AV)} {S : List Slot} {c : Option (List Bool)} {x y : Operand}
theorem VCs.prims {m : Mem} : {us : List Value} → {c : List Value} → {bs : List Nat} → VCs m (us.map .prim) c bs → c = us ∧ bs = []
  | [], _, _, ⟨h, k⟩ => ⟨h, k⟩
  | u :: us, _, _, ⟨c1, c2, b1, b2, e1, e2, ⟨⟨h1, _⟩, h2⟩, h3⟩ => by
    obtain ⟨r1, r2⟩ := VCs.prims h3
    rw [e1, e2, h1, h2, r1, r2]
    exact ⟨rfl, rfl⟩
theorem VV.aggP {m : Mem} {us : List Value} {l : List AV} {v : Value} (hl : l = us.map .prim) (h : VV m (.agg l) v []) : v = .agg us.toArray := by
  subst hl
  obtain ⟨cells, e, h⟩ := (show ∃ cells, v = .agg cells ∧ VCs m (us.map .prim) cells.toList [] from h)
  rw [e]
  congr 1
  exact Array.toList_inj.1 (by simpa using h.prims.1)
/-- Equality and inequality of two structs of plain cells. -/
theorem OpT.eqP {us vs : List Value} {l1 l2 : List AV} {r : Bool} (h1 : l1 = us.map .prim) (h2 : l2 = vs.map .prim) (hg : P.eqGuardType P.depth t = false) (h : ∀ w, (binOp .eql t (.agg us.toArray) (.agg vs.toArray)).run P w = .ok (.bool r) w) : OpT P ⟨dst, .binOp .eql t x y ty2, ty, pos, after, g⟩ [(x, .agg l1), (y, .agg l2)] [] (.prim (.bool r)) [] :=
  .pure_ fun m a hx _ => by
    have h1 := (hx (x, .agg l1) (by simp)).aggP h1
    have h2 := (hx (y, .agg l2) (by simp)).aggP h2
    refine ⟨.bool r, ?_, vv_prim _ rfl⟩
    simp only at h1 h2
    simp [execOp, h1, h2, Sem.run_bind, Result.andThen_ok, run_eqGuard_agg _ _ _ _ _ _ _ hg, h]
theorem OpT.neP {us vs : List Value} {l1 l2 : List AV} {r : Bool} (h1 : l1 = us.map .prim) (h2 : l2 = vs.map .prim) (hg : P.eqGuardType P.depth t = false) (h : ∀ w, (binOp .neq t (.agg us.toArray) (.agg vs.toArray)).run P w = .ok (.bool r) w) : OpT P ⟨dst, .binOp .neq t x y ty2, ty, pos, after, g⟩ [(x, .agg l1), (y, .agg l2)] [] (.prim (.bool r)) [] :=
  .pure_ fun m a hx _ => by
    have h1 := (hx (x, .agg l1) (by simp)).aggP h1
    have h2 := (hx (y, .agg l2) (by simp)).aggP h2
    refine ⟨.bool r, ?_, vv_prim _ rfl⟩
    simp only at h1 h2
    simp [execOp, h1, h2, Sem.run_bind, Result.andThen_ok, run_eqGuard_agg _ _ _ _ _ _ _ hg, h]
theorem W.eqP (us vs : List Value) {l1 l2 : List AV} {r : Bool} (hg : P.eqGuardType P.depth t = false) (h : ∀ w, (binOp .eql t (.agg us.toArray) (.agg vs.toArray)).run P w = .ok (.bool r) w) (hx : Rd c T x (.agg l1)) (hy : Rd c T y (.agg l2)) (h1 : l1 = us.map .prim := by rfl) (h2 : l2 = vs.map .prim := by rfl) :
    Stp c P ⟨dst, .binOp .eql t x y ty2, ty, pos, after, g⟩ T S [(x, .agg l1), (y, .agg l2)] [] (.prim (.bool r)) [] := ⟨.eqP h1 h2 hg h, .cons hx (.cons hy .nil), .nil⟩
theorem W.neP (us vs : List Value) {l1 l2 : List AV} {r : Bool} (hg : P.eqGuardType P.depth t = false) (h : ∀ w, (binOp .neq t (.agg us.toArray) (.agg vs.toArray)).run P w = .ok (.bool r) w) (hx : Rd c T x (.agg l1)) (hy : Rd c T y (.agg l2)) (h1 : l1 = us.map .prim := by rfl) (h2 : l2 = vs.map .prim := by rfl) :
    Stp c P ⟨dst, .binOp .neq t x y ty2, ty, pos, after, g⟩ T S [(x, .agg l1), (y, .agg l2)] [] (.prim (.bool r)) [] := ⟨.neP h1 h2 hg h, .cons hx (.cons hy .nil), .nil⟩
end
/-- A struct of a string and two whole numbers. -/
def one3 (P : Program) (t : TypeId) : Bool := match (P.fieldsOf t).toList with
  | [f1, f2, f3] => f1.name != "_" && f2.name != "_" && f3.name != "_" && f1.offset == 0 && f2.offset == 1 && f3.offset == 2 && (match P.underlying f1.type, P.underlying f2.type, P.underlying f3.type with | some .string, some (.int _), some (.int _) => true | _, _, _ => false)
  | _ => false
theorem run_part_i {P : Program} {t : TypeId} {k : IntKind} {xs : Array Value} {off : Nat} {v : Value} (ht : P.underlying t = some (.int k)) (hx : xs[off]? = some v) (w : World) : (part t xs off).run P w = .ok v w := by
  simp [part, isAgg, run_underlying ht, hx, Sem.run_bind, Sem.run_pure, Result.andThen_ok]
theorem run_part_s {P : Program} {t : TypeId} {xs : Array Value} {off : Nat} {v : Value} (ht : P.underlying t = some .string) (hx : xs[off]? = some v) (w : World) : (part t xs off).run P w = .ok v w := by
  simp [part, isAgg, run_underlying ht, hx, Sem.run_bind, Sem.run_pure, Result.andThen_ok]
theorem eq_three {P : Program} {t : TypeId} (h1 : P.underlying t = some (.struct (P.fieldsOf t))) (h2 : P.stoodInHeld t = false) (h : one3 P t = true) (s s' : ByteArray) (a b c d : Int) (w : World) :
    (Op.equalIn 10000 t (.agg #[.string s, .int .i64 a, .int .i64 b]) (.agg #[.string s', .int .i64 c, .int .i64 d])).run P w = .ok (decide (s.toList = s'.toList) && decide (a = c) && decide (b = d)) w := by
  rw [show (10000 : Nat) = 9999 + 1 from rfl, run_equalIn_agg w 9999 t _ _ h1 h2]
  unfold one3 at h
  split at h
  · rename_i f1 f2 f3 hf
    simp only [Bool.and_eq_true, bne_iff_ne, ne_eq, beq_iff_eq] at h
    obtain ⟨⟨⟨⟨⟨⟨n1, n2⟩, n3⟩, o1⟩, o2⟩, o3⟩, hu⟩ := h
    split at hu
    · rename_i k2 k3 u1 u2 u3
      have p1 : ∀ (x : ByteArray) (y z : Int), (part f1.type #[.string x, .int .i64 y, .int .i64 z] f1.offset).run P w = .ok (.string x) w := fun x y z => run_part_s u1 (by rw [o1]; rfl) w
      have p2 : ∀ (x : ByteArray) (y z : Int), (part f2.type #[.string x, .int .i64 y, .int .i64 z] f2.offset).run P w = .ok (.int .i64 y) w := fun x y z => run_part_i u2 (by rw [o2]; rfl) w
      have p3 : ∀ (x : ByteArray) (y z : Int), (part f3.type #[.string x, .int .i64 y, .int .i64 z] f3.offset).run P w = .ok (.int .i64 z) w := fun x y z => run_part_i u3 (by rw [o3]; rfl) w
      have q1 : ∀ x y : ByteArray, (Op.equalIn 9999 f1.type (.string x) (.string y)).run P w = .ok (x.toList == y.toList) w := fun x y => run_equalIn_string (P := P) w 9998 f1.type x y u1
      have q2 : ∀ a c : Int, (Op.equalIn 9999 f2.type (.int .i64 a) (.int .i64 c)).run P w = .ok (a == c) w := fun a c => run_equalIn_int (P := P) w 9998 f2.type .i64 k2 a c u2
      have q3 : ∀ a c : Int, (Op.equalIn 9999 f3.type (.int .i64 a) (.int .i64 c)).run P w = .ok (a == c) w := fun a c => run_equalIn_int (P := P) w 9998 f3.type .i64 k3 a c u3
      rw [hf]
      by_cases e1 : s.toList = s'.toList
      · by_cases e2 : a = c
        · by_cases e3 : b = d
          · simp [Op.eqFields, n1, n2, n3, Sem.run_bind, p1, p2, p3, q1, q2, q3, e1, e2, e3, Sem.run_pure, Sem.run_ite, Result.andThen_ok]
          · simp [Op.eqFields, n1, n2, n3, Sem.run_bind, p1, p2, p3, q1, q2, q3, e1, e2, e3, Sem.run_pure, Sem.run_ite, Result.andThen_ok]
        · simp [Op.eqFields, n1, n2, Sem.run_bind, p1, p2, q1, q2, e1, e2, Sem.run_pure, Sem.run_ite, Result.andThen_ok]
      · simp [Op.eqFields, n1, Sem.run_bind, p1, q1, e1, Sem.run_pure, Sem.run_ite, Result.andThen_ok]
    · cases hu
  · cases h
/-- A struct of two whole numbers. -/
def two2 (P : Program) (t : TypeId) : Bool := match (P.fieldsOf t).toList with
  | [f1, f2] => f1.name != "_" && f2.name != "_" && f1.offset == 0 && f2.offset == 1 && (match P.underlying f1.type, P.underlying f2.type with | some (.int _), some (.int _) => true | _, _ => false)
  | _ => false
theorem run_part_int {P : Program} {t : TypeId} {k : IntKind} {xs : Array Value} {off : Nat} {v : Value} (ht : P.underlying t = some (.int k)) (hx : xs[off]? = some v) (w : World) : (part t xs off).run P w = .ok v w := by
  simp [part, isAgg, run_underlying ht, hx, Sem.run_bind, Sem.run_pure, Result.andThen_ok]
theorem eql_two {P : Program} {t : TypeId} (h1 : P.underlying t = some (.struct (P.fieldsOf t))) (h2 : P.stoodInHeld t = false) (h : two2 P t = true) (a b c d : Int) (w : World) : (binOp .eql t (.agg #[.int .i64 a, .int .i64 b]) (.agg #[.int .i64 c, .int .i64 d])).run P w = .ok (.bool (decide (a = c) && decide (b = d))) w := by
  rw [run_eql_struct, show (10000 : Nat) = 9999 + 1 from rfl, run_equalIn_agg w 9999 t _ _ h1 h2]
  unfold two2 at h
  split at h
  · rename_i f1 f2 hf
    simp only [Bool.and_eq_true, bne_iff_ne, ne_eq, beq_iff_eq] at h
    obtain ⟨⟨⟨⟨n1, n2⟩, o1⟩, o2⟩, hu⟩ := h
    split at hu
    · rename_i k1 k2 u1 u2
      have p1 : ∀ x y : Int, (part f1.type #[.int .i64 x, .int .i64 y] f1.offset).run P w = .ok (.int .i64 x) w := fun x y => run_part_int u1 (by rw [o1]; rfl) w
      have p2 : ∀ x y : Int, (part f2.type #[.int .i64 x, .int .i64 y] f2.offset).run P w = .ok (.int .i64 y) w := fun x y => run_part_int u2 (by rw [o2]; rfl) w
      have q1 : ∀ a c : Int, (Op.equalIn 9999 f1.type (.int .i64 a) (.int .i64 c)).run P w = .ok (a == c) w := fun a c => run_equalIn_int (P := P) w 9998 f1.type .i64 k1 a c u1
      have q2 : ∀ a c : Int, (Op.equalIn 9999 f2.type (.int .i64 a) (.int .i64 c)).run P w = .ok (a == c) w := fun a c => run_equalIn_int (P := P) w 9998 f2.type .i64 k2 a c u2
      rw [hf]
      by_cases e1 : a = c
      · by_cases e2 : b = d
        · simp [Op.eqFields, n1, n2, Sem.run_bind, p1, p2, q1, q2, e1, e2, Sem.run_pure, Sem.run_ite, Result.andThen_ok]
        · simp [Op.eqFields, n1, n2, Sem.run_bind, p1, p2, q1, q2, e1, e2, Sem.run_pure, Sem.run_ite, Result.andThen_ok]
      · simp [Op.eqFields, n1, Sem.run_bind, p1, q1, e1, Sem.run_pure, Sem.run_ite, Result.andThen_ok]
    · cases hu
  · cases h
end Go.Proofs.Ytbfcbfgpbbkecaa

namespace Go.Proofs.Ytbfcbfgpbbkecaa
set_option linter.unusedVariables false
set_option linter.unusedSimpArgs false
open Go.RowKit
section
variable {P : Program} {m0 m : Mem} {N X Y : Nat} {R : Zs} {ex : List Nat} {t te ty t2 : TypeId} {sz by_ : Nat} {l ls : List AV} {dst : Option Tmp} {pos : String} {after : Array Edge} {g : Option (Nat × Bool)} {x y z u : Operand} {p q : Nat}
/-- An append onto nil: a new row. -/
theorem OpT.app_nil {t' : TypeId} (T : tRow P t = some (te, sz, by_)) (hb : ls.length * by_ ≤ 140737488355328) (hm : ls.length ≤ maxLen) : OpT P ⟨dst, .call ⟨.builtin .append, #[x, y], #[t, t]⟩, ty, pos, after, g⟩ [(x, .prim (.slice none 0 0)), (y, .lst false t' sz ls)] [(q, (Y, .gone))] (.sl Y 0 ls.length) [(q, (Y, .row te sz ls))] := by
  intro nt m0 T' S a w hx hS hd hr
  obtain ⟨m1, N1, Z1, rfl, h2, h3, h4⟩ := hr
  have h2' : Z1.map (·.1) = S := h2
  have hxa := (h4.ev (hx (x, .prim (.slice none 0 0)) (by simp))).prim
  have hya : VV m1 (.lst false t' sz ls) (a.eval y) [] := h4.ev (hx (y, .lst false t' sz ls) (by simp))
  have hSq := hS (q, (Y, .gone)) (by simp)
  rw [← h2', List.getElem?_map] at hSq
  cases hz : Z1[q]? with
  | none => rw [hz] at hSq; cases hSq
  | some z =>
    rw [hz] at hSq
    simp only [Option.map_some, Option.some.injEq] at hSq
    obtain ⟨z1, bsY⟩ := z
    simp only at hSq
    subst hSq
    obtain ⟨R, hp1, hp2⟩ := perm_get hz
    obtain ⟨m, hmw, G, hle0, hvn⟩ := Good.adopt (h3.perm hp1) te sz
    have G' := G.perm (List.Perm.swap ..)
    have hya2 : VV m (.lst false t' sz ls) (a.eval y) [] := hya.mono hle0 (by simp)
    have hvn' : VV m (.sl N1 0 ([] : List AV).length) (.slice none 0 0) [] := hvn
    obtain ⟨xs, bs0, hown, hv, hwl, hbs⟩ := ORel.owns (G'.obj ((N1, .row te sz []), []) (by simp)) hvn'
    obtain ⟨_, A, c, e1, hkc, hws, hrd⟩ := hya2
    injection e1 with e1
    obtain ⟨news, hnl, hnc, hnv⟩ : ∃ news : List Value, news.length = ls.length * sz ∧ (0 < ls.length → ∃ b off, A = some ⟨b, off, none⟩ ∧ ∀ j u, news[j]? = some u → m.w.cell? ⟨b, off + j, none⟩ = some u) ∧ VCs m ls news [] := by
      rcases Nat.eq_zero_or_pos ls.length with h0 | h0
      · have : ls = [] := List.eq_nil_of_length_eq_zero h0
        subst this
        exact ⟨[], by simp, fun h => absurd h (by simp), VCs.nil⟩
      · obtain ⟨b, off, arr, tt, r, hA, hF, hb, hc⟩ := hrd h0
        refine ⟨_, by rw [VCs.len _ hc, widths_of hws], fun _ => ⟨b, off, hA, fun j u hj => ?_⟩, hc⟩
        rw [List.getElem?_take] at hj
        split at hj
        · rw [List.getElem?_drop] at hj
          simp only [World.cell?, hb]
          simpa using hj
        · cases hj
    obtain ⟨v', w', hrun, hown', hg, hat⟩ := run_append_any T m.w ty hown hkc hnl hnc (VCs.ones _ hnv) (by simpa using hb) (by simpa using hm)
    obtain ⟨m', bs', hw', G2, hle, hv'⟩ := Good.app G' hv hnv (fun e he => by rcases List.mem_append.1 he with h | h; exact hwl e h; exact hws e h) hbs hown' hg hat
    have hex : (execOp a.eval ⟨dst, .call ⟨.builtin .append, #[x, y], #[t, t]⟩, ty, pos, after, g⟩).run P m1.w = .ok (.value v') w' := by
      rw [run_builtin, ← hmw]
      simp only [builtin, List.map_toArray, List.map_cons, List.map_nil, e1, show a.eval x = _ from hxa, Sem.run_bind, hrun, Result.andThen_ok, Sem.run_pure]
    unfold Oper.wp
    rw [hex]
    have G3 := G2.sub (List.sublist_cons_self _ _)
    simp only [List.length_nil, Nat.zero_add, List.nil_append] at G3 hv'
    refine ⟨m', N1 + 1, _, hw', ?_, G3.perm (hp2 _).symm, (h4.mono (hle0.trans hle)).put hd hv'⟩
    rw [List.map_set, h2']; rfl
end
end Go.Proofs.Ytbfcbfgpbbkecaa

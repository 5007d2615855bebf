/-
  Ghost steps (a stamp kept, nil as an empty row, a row frozen); parts of slices; append. No conditions.
-/
import Derived.Test.YtcfleoaldoebhaaAbs10
import Derived.Maps.AppendAt
namespace Go.Proofs.Ytcfleoaldoebhaa
set_option linter.unusedVariables false
variable {ro : Option Nat}
set_option linter.unusedSimpArgs false
open Go.RowKit

section
variable {P : Program} {nt : Nat} {m0 m : Mem} {N : Nat} {R : Zs} {ex : List Nat} {X Y : Nat} {t te t' ty : TypeId} {sz : Nat} {l : List AV} {st : St}
variable {o : Oper} {v : AV} {x y z : Operand} {pos : String} {after : Array Edge} {g : Option (Nat × Bool)} {dst : Option Tmp} {p q : Nat} {u1 u2 : Value}
theorem OpT.or_opt {b c : Bool} : OpT P ⟨dst, .pick x y z, ty, pos, after, g⟩ [(x, .prim (.bool b)), (y, .prim (.bool true)), (z, .opt (b == false) (.prim (.bool c)))] [] (.prim (.bool (b || c))) [] :=
  .pure_ fun m a hx _ => by
    have h1 := (hx (x, .prim (.bool b)) (by simp)).prim
    have h2 := (hx (y, .prim (.bool true)) (by simp)).prim
    have h3 := (hx (z, .opt (b == false) (.prim (.bool c))) (by simp)).2.1
    simp only at h1 h2 h3
    refine ⟨_, ?_, vv_prim _⟩
    cases b
    · have h4 : a.eval z = .bool c := VV.prim (m := m) (bs := []) (h3 rfl)
      simp [execOp, h1, h4, asBool, Sem.run_bind, Sem.run_pure, Result.andThen_ok]
    · simp [execOp, h1, h2, asBool, Sem.run_bind, Sem.run_pure, Result.andThen_ok]
theorem OpT.and_opt {b c : Bool} : OpT P ⟨dst, .pick x y z, ty, pos, after, g⟩ [(x, .prim (.bool b)), (y, .opt (b == true) (.prim (.bool c))), (z, .prim (.bool false))] [] (.prim (.bool (b && c))) [] :=
  .pure_ fun m a hx _ => by
    have h1 := (hx (x, .prim (.bool b)) (by simp)).prim
    have h2 := (hx (y, .opt (b == true) (.prim (.bool c))) (by simp)).2.1
    have h3 := (hx (z, .prim (.bool false)) (by simp)).prim
    simp only at h1 h2 h3
    refine ⟨_, ?_, vv_prim _⟩
    cases b
    · simp [execOp, h1, h3, asBool, Sem.run_bind, Sem.run_pure, Result.andThen_ok]
    · have h4 : a.eval y = .bool c := VV.prim (m := m) (bs := []) (h2 rfl)
      simp [execOp, h1, h4, asBool, Sem.run_bind, Sem.run_pure, Result.andThen_ok]

/-! ### ghost steps -/
theorem Good.one {zs zs' : Zs} (G : Good m0 m N (zs ++ R) ex) (m' : Mem) (N' : Nat) (hw : m'.w = m.w) (hF : m'.F = m.F) (hle : m.Le m') (hN : N ≤ N') (hμ : ∀ y, y ∉ zs.keys → y < N → m'.μ y = m.μ y)
    (hobj : ∀ z ∈ zs', ORel m' z.1.1 z.1.2 z.2) (hown : zs'.own = zs.own) (hkeys : zs'.keys.Nodup) (hkeyN : ∀ y ∈ zs'.keys, y < N' ∧ (y ∈ zs.keys ∨ N ≤ y)) (hU : ∀ y, m'.U y → y < N' ∧ (m.U y ∨ y ∈ zs.keys ∨ N ≤ y)) : Good m0 m' N' (zs' ++ R) ex := by
  refine Good.swap G hle hN hμ (fun b _ _ _ => by rw [hw]) hobj ?_ ?_ ?_ hkeys hkeyN hU (by rw [hw]) (by rw [hw]) (by rw [hw]) (by rw [hw]; exact Nat.le_refl _)
  · rw [hown]
    have h := G.own
    rw [own_append, List.append_assoc] at h
    have hp : (zs.own ++ (R.own ++ ex)).Perm ((zs.own ++ ex) ++ R.own) := by
      rw [List.append_assoc]
      exact List.Perm.append_left _ List.perm_append_comm
    exact (List.nodup_append.1 (hp.nodup_iff.1 h)).1
  · intro b hb
    rw [hown] at hb
    have hb' : b ∈ Zs.own (zs ++ R) ++ ex := by
      rw [own_append]
      rcases List.mem_append.1 hb with h | h <;> simp [h]
    rw [hw, hF]
    exact ⟨(G.blk b hb').1, (G.blk b hb').2, by rcases List.mem_append.1 hb with h | h <;> simp [h]⟩
  · intro b hb
    rw [hF] at hb
    rw [hw]
    exact ⟨G.frz b hb, .inl hb⟩
theorem St.reserve (st : St) : St.To nt st fun st' => ∃ X, st' = ⟨st.T, (X, .gone) :: st.S⟩ := by
  rintro m0 a w ⟨m, N, Z, rfl, h2, h3, h4⟩
  refine ⟨⟨st.T, (N, .gone) :: st.S⟩, ⟨m, N + 1, ((N, .gone), []) :: Z, rfl, by simp [h2], ?_, h4⟩, N, rfl⟩
  refine Good.one (zs := []) (zs' := [((N, .gone), [])]) (R := Z) h3 m (N + 1) rfl rfl (.refl _) (by omega) (fun _ _ _ => rfl) ?_ rfl (by simp [Zs.keys]) ?_ ?_
  · intro z hz
    simp only [List.mem_singleton] at hz
    subst hz
    exact ⟨rfl, fun h => Nat.lt_irrefl _ (h3.usedN _ h)⟩
  · intro y hy
    simp [Zs.keys] at hy
    omega
  · intro y hy
    have := h3.usedN y hy
    exact ⟨by omega, .inl hy⟩
theorem AOps.reserve {ops : Array Oper} {Q : Exit → St → Prop} {rest : List Oper} (k : ∀ X, AOps ro P nt ops Q rest ⟨st.T, (X, .gone) :: st.S⟩) : AOps ro P nt ops Q rest st := .ghost (St.reserve st) (by rintro _ ⟨X, rfl⟩; exact k X)
theorem AWP.reserve {c : Code} {Q : Exit → St → Prop} (k : ∀ X, AWP ro P nt c Q ⟨st.T, (X, .gone) :: st.S⟩) : AWP ro P nt c Q st := .ghost (St.reserve st) (by rintro _ ⟨X, rfl⟩; exact k X)

/-- A nil slice is a new empty row. -/
theorem Good.adopt (G : Good m0 m N R ex) (t : TypeId) (sz : Nat) : ∃ m', m'.w = m.w ∧ Good m0 m' (N + 1) (((N, .row t sz []), []) :: R) ex ∧ m.Le m' ∧ VC m' (.sl N 0 0) [.slice none 0 0] [] := by
  have hNU : ¬ m.U N := fun h => Nat.lt_irrefl _ (G.usedN _ h)
  let m' : Mem := ⟨fun y => if y = N then some ⟨0, 0, sz, true⟩ else m.μ y, fun y => m.U y ∨ y = N, m.w, m.F⟩
  have hle : m.Le m' := by
    refine ⟨fun y h => .inl h, fun y L hy hL => ?_, fun b hb => ⟨hb, rfl⟩⟩
    simp only [m'] at hL
    split at hL
    · rename_i e; subst e; exact absurd hy hNU
    · exact hL
  refine ⟨m', rfl, ?_, hle, rfl, .inr rfl, none, 0, rfl, fun L hL => ?_⟩
  · refine Good.one (zs := []) (zs' := [((N, .row t sz []), [])]) (R := R) G m' (N + 1) rfl rfl hle (by omega) (fun y _ hy => by simp only [m']; rw [if_neg (by omega)]) ?_ rfl (by simp [Zs.keys]) ?_ ?_
    · intro z hz
      simp only [List.mem_singleton] at hz
      subst hz
      exact ⟨.inr rfl, ⟨0, 0, sz, true⟩, by simp [m'], rfl, .inl ⟨rfl, rfl, rfl⟩⟩
    · intro y hy
      simp [Zs.keys] at hy
      omega
    · intro y hy
      rcases hy with hy | rfl
      · have := G.usedN y hy
        exact ⟨by omega, .inl hy⟩
      · exact ⟨by omega, .inr (.inr (Nat.le_refl _))⟩
  · simp only [m', if_true, Option.some.injEq] at hL
    subst hL
    exact .inl ⟨rfl, rfl, rfl, rfl⟩
theorem TRel.over {T : List (Nat × AV)} {a : Act} (h : TRel m0 m nt T a) {d : Nat} {v w : AV} (hd : look T d = some v) (hv : ∀ u, VV m v u [] → VV m w u []) : TRel m0 m nt ((d, w) :: T) a :=
  ⟨h.1, h.2.1, fun e v' he => by
    rw [look_cons] at he
    split at he
    · rename_i e'; subst e'
      injection he with he; subst he
      obtain ⟨u, h1, h2⟩ := h.2.2 _ v hd
      exact ⟨u, h1, hv u h2⟩
    · exact h.2.2 e v' he⟩
theorem St.adopt {d : Nat} (t : TypeId) (sz : Nat) (hd : look st.T d = some (.prim (.slice none 0 0))) : St.To nt st fun st' => ∃ X, st' = ⟨(d, .sl X 0 0) :: st.T, (X, .row t sz []) :: st.S⟩ := by
  rintro m0 a w ⟨m, N, Z, rfl, h2, h3, h4⟩
  obtain ⟨m', hw, G', hle, hv⟩ := h3.adopt t sz
  refine ⟨_, ⟨m', N + 1, _, hw, by simp [h2], G', ?_⟩, N, rfl⟩
  refine (h4.mono hle).over hd fun u hu => ?_
  have := hu.prim
  subst this
  exact hv
/-- A row is frozen: what referred to it reads as a list. -/
theorem Good.iced {bs : List Nat} (G : Good m0 m N (((X, .row t sz l), bs) :: R) ex) : ∃ m', m'.w = m.w ∧ Good m0 m' N (((X, .used), []) :: R) ex ∧ m.Le m' ∧ (∀ off n c, off + n ≤ l.length → VC m (.sl X off n) c [] → VC m' (.lst false t sz (AV.frzs ((l.drop off).take n))) c []) ∧ ∀ e c, l = [e] → VC m (.ptr X 0 0) c [] → VC m' (.fp e.frz.cells) c [] := by
  have hO := G.obj _ (List.mem_cons_self ..)
  obtain ⟨hU, L, hL, hsz, hO⟩ := hO
  have hp : (Zs.own (((X, AO.row t sz l), bs) :: R) ++ ex).Perm (Zs.own (((X, AO.used), []) :: R) ++ (bs ++ ex)) := by
    simp only [own_cons, List.nil_append]
    rw [List.append_assoc]
    refine List.perm_append_comm.trans ?_
    rw [List.append_assoc]
    exact List.Perm.append_left _ List.perm_append_comm
  have G1 : Good m0 m N (((X, .used), []) :: R) (bs ++ ex) := by
    refine ⟨?_, hp.nodup_iff.1 G.own, fun b hb => G.blk b (hp.mem_iff.2 hb), G.frz, G.keys, G.keyN, G.usedN, G.le, G.os, G.tape, G.output, G.size⟩
    intro z hz
    rcases List.mem_cons.1 hz with rfl | hz
    · exact ⟨rfl, hU⟩
    · exact G.obj z (List.mem_cons_of_mem _ hz)
  obtain ⟨G2, hle⟩ := G1.freeze _ rfl
  refine ⟨{ m with F := fun b => m.F b ∨ b ∈ bs }, rfl, G2, hle, ?_, ?_⟩
  rotate_left
  · rintro e c rfl ⟨_, hU', A, rfl, hA⟩
    rw [hA L hL]
    rcases hO with ⟨_, h5, _⟩ | ⟨_, arr, bs', rfl, h6, h7, h8, h9, h10, h11⟩
    · cases h5
    · have hw : e.width = sz := h10 e (by simp)
      have hv : VC m e (arr.toList.take sz) bs' := by simpa using VCs.one.1 h11
      have hf := VC.cells (VC.frz hle e (fun b hb => ⟨.inr (by simp [hb]), rfl⟩) hv)
      refine ⟨rfl, L.blk, 0 * L.sz + 0, arr, t, (0, 0), rfl, .inr (by simp), h6, ?_⟩
      have hl : AV.widths e.frz.cells = sz := by
        rw [← VCs.len _ hf, List.length_take, Nat.min_eq_left]
        have := VC.len _ hv
        rw [List.length_take] at this
        omega
      rw [hl]
      simpa using hf
  intro off n c hn hv
  obtain ⟨_, _, A, q, rfl, hs⟩ := hv
  have hfl : (AV.frzs ((l.drop off).take n)).length = n := by rw [frzs_len, List.length_take, List.length_drop]; omega
  refine ⟨rfl, A, q, by rw [hfl], ?_, ?_, ?_⟩
  · rcases hs L hL with ⟨_, h2, _, h3⟩ | ⟨_, h2, o, h3, _⟩
    · omega
    · injection h3 with h4 h5 h6
      omega
  · intro e he
    rw [frzs_map] at he
    obtain ⟨e', he', rfl⟩ := List.mem_map.1 he
    rw [frz_width]
    rcases hO with ⟨_, rfl, _⟩ | ⟨_, arr, bs', _, _, _, _, _, hw, _⟩
    · simp at he'
    · exact hw e' (List.mem_of_mem_drop (List.mem_of_mem_take he'))
  · intro h0
    rw [hfl] at h0 ⊢
    rcases hs L hL with ⟨_, _, _, h3⟩ | ⟨h1, h2, o, h3, h4⟩
    · omega
    · rcases hO with ⟨_, rfl, _⟩ | ⟨_, arr, bs', rfl, h6, h7, h8, h9, h10, h11⟩
      · simp at hn; omega
      · injection h3 with h12 h13 h14
        have ho := h4 (.inl (by omega))
        obtain ⟨p1, p2, e1, _, k1⟩ := VCs.take h10 h11 (k := off) (by omega)
        obtain ⟨p3, p4, e2, k2, _⟩ := VCs.take (l := l.drop off) (fun e he => h10 e (List.mem_of_mem_drop he)) k1 (k := n) (by rw [List.length_drop]; omega)
        refine ⟨L.blk, o, arr, t, (0, 0), h12, .inr (by simp), h6, ?_⟩
        have hc : (arr.toList.drop o).take (n * sz) = ((arr.toList.take (l.length * sz)).drop (off * sz)).take (n * sz) := by
          rw [ho, hsz, List.drop_take, List.take_take, Nat.min_eq_left]
          rw [← Nat.sub_mul]
          exact Nat.mul_le_mul_right _ (by omega)
        rw [hc]
        refine VCs.frz hle _ (fun b hb => ⟨.inr ?_, rfl⟩) k2
        rw [e1, e2]
        simp [hb]
theorem St.ice {d n : Nat} (hd : look st.T d = some (.sl X 0 n)) (hS : At st.S p (X, .row t sz l)) (hn : n = l.length) : St.To nt st fun st' => st' = ⟨(d, .lst false t sz (AV.frzs l)) :: st.T, st.S.set p (X, .used)⟩ := by
  rintro m0 a w ⟨m, N, Z, rfl, h2, h3, h4⟩
  obtain ⟨bs, hz⟩ := hS.z h2
  obtain ⟨R, hp1, hp2⟩ := perm_get hz
  obtain ⟨m', hw, G', hle, hv, _⟩ := (h3.perm hp1).iced
  refine ⟨_, ⟨m', N, Z.set p ((X, .used), []), hw, by rw [List.map_set, h2], G'.perm (hp2 _).symm, ?_⟩, rfl⟩
  have hk : look st.T d = some (.sl X 0 n) := hd
  refine ⟨h4.1, h4.2.1.mono hle, fun e v' he => ?_⟩
  rw [look_cons] at he
  split at he
  · rename_i e'; subst e'
    injection he with he; subst he
    obtain ⟨u, h5, h6⟩ := h4.2.2 _ _ hk
    refine ⟨u, h5, ?_⟩
    have := hv 0 n [u] (by omega) h6
    rwa [List.drop_zero, List.take_of_length_le (by omega)] at this
  · obtain ⟨u, h5, h6⟩ := h4.2.2 e v' he
    exact ⟨u, h5, h6.mono hle (by simp)⟩

/-! ### parts of slices -/
theorem OpT.slice_hi {k : IntKind} {off n hi : Nat} {qi : Int} (he : tElem P t = some te) (hsz : tSz P te = some sz) (hq : qi = (hi : Int)) (hh : hi ≤ n) : OpT P ⟨dst, .slice t x none (some y) none, ty, pos, after, g⟩ [(x, .sl X off n), (y, .prim (.int k qi))] [(p, (X, .row t' sz l))] (.sl X off hi) [] :=
  .pure_ fun m a hx hS => by
    obtain ⟨bs, hU, L, h1, h2, _⟩ := hS (p, (X, .row t' sz l)) (by simp)
    obtain ⟨_, hU', A, c, e1, h3⟩ := hx (x, .sl X off n) (by simp)
    have hy := (hx (y, .prim (.int k qi)) (by simp)).prim
    injection e1 with e1
    simp only at e1 hy
    subst hq
    have hcap : hi ≤ c := by
      rcases h3 L h1 with ⟨_, e, _, e'⟩ | ⟨_, h4, o, e, _⟩
      · omega
      · injection e with _ _ e; omega
    have hr := run_slice (P := P) (w := m.w) he hsz (A := A) (len := n) (cap := c) (lo := 0) (hi := hi) (vl := none) (vh := some (.int k hi)) (by simp) (by simp) (fun u hu => ⟨k, by injection hu with hu; exact hu.symm⟩) (by simp) (by omega) hcap
    refine ⟨_, by simp only [execOp, Option.map_none, Option.map_some, e1, hy, Sem.run_bind, hr, Result.andThen_ok]; rfl, rfl, hU', _, _, rfl, fun L' hL' => ?_⟩
    rw [h1] at hL'; injection hL' with hL'; subst hL'
    rcases h3 L h1 with ⟨h5, e, e2, e3⟩ | ⟨h5, h4, o, e, h6⟩
    · injection e with e4 e5 e6
      subst e4 e6
      have : hi = 0 := by omega
      subst this
      exact .inl ⟨h5, by simp, e2, rfl⟩
    · injection e with e4 e5 e6
      subst e4 e6
      refine .inr ⟨h5, by omega, o, ?_, h6⟩
      simp only [Nat.zero_mul, Nat.sub_zero, Option.map_some]
      split
      · rfl
      · rw [pt_add, Nat.add_zero]
theorem OpT.slice_lst_hi {k : IntKind} {hi : Nat} {qi : Int} (he : tElem P t = some te) (hsz : tSz P te = some sz) (hq : qi = (hi : Int)) (hh : hi ≤ l.length) : OpT P ⟨dst, .slice t x none (some y) none, ty, pos, after, g⟩ [(x, .lst false t' sz l), (y, .prim (.int k qi))] [] (.lst false t' sz (l.take hi)) [] :=
  .pure_ fun m a hx hS => by
    obtain ⟨_, A, c, e1, h3, hw, h4⟩ := hx (x, .lst false t' sz l) (by simp)
    have hy := (hx (y, .prim (.int k qi)) (by simp)).prim
    injection e1 with e1
    simp only at e1 hy
    subst hq
    have hr := run_slice (P := P) (w := m.w) he hsz (A := A) (len := l.length) (cap := c) (lo := 0) (hi := hi) (vl := none) (vh := some (.int k hi)) (by simp) (by simp) (fun u hu => ⟨k, by injection hu with hu; exact hu.symm⟩) (by simp) (by omega) (by omega)
    have hl : (l.take hi).length = hi := by rw [List.length_take]; omega
    refine ⟨_, by simp only [execOp, Option.map_none, Option.map_some, e1, hy, Sem.run_bind, hr, Result.andThen_ok]; rfl, rfl, A, c, ?_, by rw [hl]; omega, fun e he => hw e (List.mem_of_mem_take he), fun h0 => ?_⟩
    · rw [hl]
      congr 2
      simp only [Nat.zero_mul, Nat.sub_zero]
      split
      · rfl
      · cases A with
        | none => rfl
        | some ad => rfl
    · rw [hl] at h0 ⊢
      obtain ⟨b, off, arr, tt, r, rfl, hF, hb, hc⟩ := h4 (by omega)
      obtain ⟨p1, p2, e2, h5, _⟩ := VCs.take hw hc hh
      obtain ⟨rfl, rfl⟩ : p1 = [] ∧ p2 = [] := by simpa using e2.symm
      refine ⟨b, off, arr, tt, r, rfl, hF, hb, ?_⟩
      rw [List.take_take, Nat.min_eq_left (Nat.mul_le_mul_right _ hh)] at h5
      exact h5
theorem OpT.slice_lst_lo {k : IntKind} {lo : Nat} {qi : Int} (he : tElem P t = some te) (hsz : tSz P te = some sz) (hq : qi = (lo : Int)) (hh : lo ≤ l.length) : OpT P ⟨dst, .slice t x (some y) none none, ty, pos, after, g⟩ [(x, .lst false t' sz l), (y, .prim (.int k qi))] [] (.lst false t' sz (l.drop lo)) [] :=
  .pure_ fun m a hx hS => by
    obtain ⟨_, A, c, e1, h3, hw, h4⟩ := hx (x, .lst false t' sz l) (by simp)
    have hy := (hx (y, .prim (.int k qi)) (by simp)).prim
    injection e1 with e1
    simp only at e1 hy
    subst hq
    have hr := run_slice (P := P) (w := m.w) he hsz (A := A) (len := l.length) (cap := c) (lo := lo) (hi := l.length) (vl := some (.int k lo)) (vh := none) (fun u hu => ⟨k, by injection hu with hu; exact hu.symm⟩) (by simp) (by simp) (by simp) hh h3
    have hl : (l.drop lo).length = l.length - lo := by rw [List.length_drop]
    refine ⟨_, by simp only [execOp, Option.map_none, Option.map_some, e1, hy, Sem.run_bind, hr, Result.andThen_ok]; rfl, rfl, _, c - lo, by rw [hl], by rw [hl]; omega, fun e he => hw e (List.mem_of_mem_drop he), fun h0 => ?_⟩
    rw [hl] at h0 ⊢
    obtain ⟨b, off, arr, tt, r, rfl, hF, hb, hc⟩ := h4 (by omega)
    obtain ⟨p1, p2, e2, _, h5⟩ := VCs.take hw hc hh
    obtain ⟨rfl, rfl⟩ : p1 = [] ∧ p2 = [] := by simpa using e2.symm
    rw [if_neg (by omega)]
    refine ⟨b, off + lo * sz, arr, tt, r, by rw [Option.map_some, pt_add], hF, hb, ?_⟩
    rw [List.drop_take, List.drop_drop, ← Nat.sub_mul] at h5
    exact h5
end
end Go.Proofs.Ytcfleoaldoebhaa

/-
  Part 3 of the texts under the law SaveFlips: the layer of abstract values, walks and plain laws. Conditions: those that each theorem names.
-/
import Derived.Laws.BytesString
import Derived.Laws.BitsAllLaws
import Derived.Lib.BytesEntry
import Derived.Laws.Externs
import Derived.Lib.SlBytesConst
import Derived.Test.YtbfcbfgpbbkecaaSaveFlipsP2
namespace Go.Proofs.Ytbfcbfgpbbkecaa
set_option linter.unusedVariables false
set_option linter.unusedSimpArgs false
open Go.RowKit
section
variable {P : Program} {m0 m : Mem} {N X Y : Nat} {R : Zs} {ex : List Nat} {t te ty t2 : TypeId} {sz by_ : Nat} {l ls : List AV} {dst : Option Tmp} {pos : String} {after : Array Edge} {g : Option (Nat × Bool)} {x y z u : Operand} {p q : Nat}
/-- An append onto nil: a new row. -/
theorem OpT.app_nil {t' : TypeId} (T : tRow P t = some (te, sz, by_)) (hb : ls.length * by_ ≤ 140737488355328) (hm : ls.length ≤ maxLen) : OpT P ⟨dst, .call ⟨.builtin .append, #[x, y], #[t, t]⟩, ty, pos, after, g⟩ [(x, .prim (.slice none 0 0)), (y, .lst false t' sz ls)] [(q, (Y, .gone))] (.sl Y 0 ls.length) [(q, (Y, .row te sz ls))] := by
  intro nt m0 T' S a w hx hS hd hr
  obtain ⟨m1, N1, Z1, rfl, h2, h3, h4⟩ := hr
  have h2' : Z1.map (·.1) = S := h2
  have hxa := (h4.ev (hx (x, .prim (.slice none 0 0)) (by simp))).prim
  have hya : VV m1 (.lst false t' sz ls) (a.eval y) [] := h4.ev (hx (y, .lst false t' sz ls) (by simp))
  have hSq := hS (q, (Y, .gone)) (by simp)
  rw [← h2', List.getElem?_map] at hSq
  cases hz : Z1[q]? with
  | none => rw [hz] at hSq; cases hSq
  | some z =>
    rw [hz] at hSq
    simp only [Option.map_some, Option.some.injEq] at hSq
    obtain ⟨z1, bsY⟩ := z
    simp only at hSq
    subst hSq
    obtain ⟨R, hp1, hp2⟩ := perm_get hz
    obtain ⟨m, hmw, G, hle0, hvn⟩ := Good.adopt (h3.perm hp1) te sz
    have G' := G.perm (List.Perm.swap ..)
    have hya2 : VV m (.lst false t' sz ls) (a.eval y) [] := hya.mono hle0 (by simp)
    have hvn' : VV m (.sl N1 0 ([] : List AV).length) (.slice none 0 0) [] := hvn
    obtain ⟨xs, bs0, hown, hv, hwl, hbs⟩ := ORel.owns (G'.obj ((N1, .row te sz []), []) (by simp)) hvn'
    obtain ⟨_, A, c, e1, hkc, hws, hrd⟩ := hya2
    injection e1 with e1
    obtain ⟨news, hnl, hnc, hnv⟩ : ∃ news : List Value, news.length = ls.length * sz ∧ (0 < ls.length → ∃ b off, A = some ⟨b, off, none⟩ ∧ ∀ j u, news[j]? = some u → m.w.cell? ⟨b, off + j, none⟩ = some u) ∧ VCs m ls news [] := by
      rcases Nat.eq_zero_or_pos ls.length with h0 | h0
      · have : ls = [] := List.eq_nil_of_length_eq_zero h0
        subst this
        exact ⟨[], by simp, fun h => absurd h (by simp), VCs.nil⟩
      · obtain ⟨b, off, arr, tt, r, hA, hF, hb, hc⟩ := hrd h0
        refine ⟨_, by rw [VCs.len _ hc, widths_of hws], fun _ => ⟨b, off, hA, fun j u hj => ?_⟩, hc⟩
        rw [List.getElem?_take] at hj
        split at hj
        · rw [List.getElem?_drop] at hj
          simp only [World.cell?, hb]
          simpa using hj
        · cases hj
    obtain ⟨v', w', hrun, hown', hg, hat⟩ := run_append_any T m.w ty hown hkc hnl hnc (VCs.ones _ hnv) (by simpa using hb) (by simpa using hm)
    obtain ⟨m', bs', hw', G2, hle, hv'⟩ := Good.app G' hv hnv (fun e he => by rcases List.mem_append.1 he with h | h; exact hwl e h; exact hws e h) hbs hown' hg hat
    have hex : (execOp a.eval ⟨dst, .call ⟨.builtin .append, #[x, y], #[t, t]⟩, ty, pos, after, g⟩).run P m1.w = .ok (.value v') w' := by
      rw [run_builtin, ← hmw]
      simp only [builtin, List.map_toArray, List.map_cons, List.map_nil, e1, show a.eval x = _ from hxa, Sem.run_bind, hrun, Result.andThen_ok, Sem.run_pure]
    unfold Oper.wp
    rw [hex]
    have G3 := G2.sub (List.sublist_cons_self _ _)
    simp only [List.length_nil, Nat.zero_add, List.nil_append] at G3 hv'
    refine ⟨m', N1 + 1, _, hw', ?_, G3.perm (hp2 _).symm, (h4.mono (hle0.trans hle)).put hd hv'⟩
    rw [List.map_set, h2']; rfl
end
end Go.Proofs.Ytbfcbfgpbbkecaa

namespace Go.Proofs.Ytbfcbfgpbbkecaa
set_option linter.unusedVariables false
set_option linter.unusedSimpArgs false
open Go.RowKit
section
variable {P : Program} {ro : Option Nat} {nt : Nat} {ops : Array Oper} {Q : Exit → St → Prop} {rest : List Oper} {T : List (Nat × AV)} {S : List Slot} {ty t te t2 t' ty2 : TypeId} {pos : String} {after : Array Edge} {dst : Option Tmp} {c : Option (List Bool)} {g : Option (Nat × Bool)} {x y z u : Operand} {X Y p q sz by_ : Nat} {l ls : List AV} {cd : Code}
theorem fold_bytes (bs : List UInt8) : ∀ r : List UInt8, (bs.map fun b => ((b.toNat : Nat) : Int)).foldl (fun r n => r.push (UInt8.ofNat n.toNat)) (⟨r.toArray⟩ : ByteArray) = ⟨(r ++ bs).toArray⟩ := by
  induction bs with
  | nil => intro r; simp
  | cons b bs ih =>
    intro r
    have e : (⟨r.toArray⟩ : ByteArray).push (UInt8.ofNat ((b.toNat : Nat) : Int).toNat) = ⟨(r ++ [b]).toArray⟩ := by
      apply ByteArray.ext
      simp [ByteArray.push]
    rw [List.map_cons, List.foldl_cons, e, ih]
    simp
theorem OpT.bytesStr {bs : List UInt8} (hs : P.underlying t = some (.slice te)) (he : P.underlying te = some (.int .u8)) (hd : P.underlying t2 = some .string) (hsz : 0 < bs.length) : OpT P ⟨dst, .convert t t2 x, ty, pos, after, g⟩ [(x, .lst false t' 1 (bs.map fun b => .prim (.int .u8 ((b.toNat : Nat) : Int))))] [] (.prim (strA bs)) [] :=
  .pure_ fun m a hx _ => by
    obtain ⟨_, A, cap, e1, hlc, hw, hr⟩ := hx (x, .lst false t' 1 (bs.map fun b => .prim (.int .u8 ((b.toNat : Nat) : Int)))) (by simp)
    injection e1 with e1
    rw [List.length_map] at e1 hr
    obtain ⟨b, off, arr, tt, r, rfl, hF, hb, hv⟩ := hr hsz
    have hcells : (arr.toList.drop off).take (bs.length * 1) = (bs.map fun b => ((b.toNat : Nat) : Int)).map (Value.int .u8) := by
      have h2 := (VCs.prims (us := (bs.map fun b => ((b.toNat : Nat) : Int)).map (Value.int .u8)) (by rw [List.map_map, List.map_map]; exact hv)).1
      exact h2
    have hload : (loadCells ⟨b, off, none⟩ bs.length).run P m.w = .ok ((bs.map fun b => ((b.toNat : Nat) : Int)).map (Value.int .u8)).toArray m.w := by
      have := run_loadCells_list (P := P) m.w ⟨b, off, none⟩ ((bs.map fun b => ((b.toNat : Nat) : Int)).map (Value.int .u8)) (fun j v hj => by
        rw [← hcells, List.getElem?_take] at hj
        split at hj
        · rw [List.getElem?_drop] at hj
          rw [pt_add]
          simp only [World.cell?, hb]
          simpa using hj
        · cases hj)
      simpa using this
    refine ⟨.string ⟨bs.toArray⟩, ?_, vv_prim _⟩
    simp only [execOp, show a.eval x = _ from e1, Sem.run_bind, run_convert_bytes_string m.w t t2 te _ _ _ hs he hd, run_bytesToString m.w _ _ _ _ hload, Result.andThen_ok, Sem.run_pure]
    have := fold_bytes bs []
    simp only [List.nil_append] at this
    rw [show (ByteArray.empty) = (⟨([] : List UInt8).toArray⟩ : ByteArray) from rfl, this]
theorem W.appN [TRo P t te sz by_] (hb : ls.length * by_ ≤ 140737488355328) (hm : ls.length ≤ maxLen) (hx : Rd c T x (.prim (.slice none 0 0))) (hy : Rd c T y (.lst false t' sz ls)) (hSq : At S q (Y, .gone)) :
    Stp c P ⟨dst, .call ⟨.builtin .append, #[x, y], #[t, t]⟩, ty, pos, after, g⟩ T S [(x, .prim (.slice none 0 0)), (y, .lst false t' sz ls)] [(q, (Y, .gone))] (.sl Y 0 ls.length) [(q, (Y, .row te sz ls))] :=
  ⟨.app_nil TRo.h hb hm, .cons hx (.cons hy .nil), .cons hSq .nil⟩
end
end Go.Proofs.Ytbfcbfgpbbkecaa

namespace Go.Proofs.Ytbfcbfgpbbkecaa
set_option linter.unusedVariables false
section
variable {ro : Option Nat} {P : Program} {nt : Nat} {ops : Array Oper} {Q : Exit → St → Prop} {rest : List Oper} {T : List (Nat × AV)} {S : List Slot} {ty t te : TypeId} {sz : Nat} {x y : Operand} {pos : String} {after : Array Edge} {dst : Option Tmp}
end
end Go.Proofs.Ytbfcbfgpbbkecaa

namespace Go.Proofs.Ytbfcbfgpbbkecaa
set_option linter.unusedVariables false
theorem Ends.cv {P : Program} {res : List ResultVar} {Sf : List Slot} {st : St} {r : AV} {S1 : List Slot} (rs rs' : List AV) (c : CVs st.S rs rs' S1) (e : packR rs' = r := by rfl) (h : ResVs P st res rs := by (repeat (first | exact .nil | refine .cons (.tmp (by rfl)) (by rfl) ?_ | refine .cons (.cell (by rfl) (by exact At.f) TAg.h TSize.h (by exact rfl) (by exact rfl)) (by rfl) ?_))) (hS : Sf.Sublist S1 := by exact Sub.f) : Ends P res Sf (fun r' S' => r' = r ∧ S' = []) st := ⟨rs, rs', S1, [], h, c, hS, e, rfl⟩
/-- The results as they stand, and the objects S'. -/
theorem Ends.sp {P : Program} {res : List ResultVar} {Sf : List Slot} {Q : AV → List Slot → Prop} {st : St} (rs : List AV) (S' : List Slot) (e : Q (packR rs) S') (h : ResVs P st res rs := by (repeat (first | exact .nil | refine .cons (.tmp (by rfl)) (by rfl) ?_ | refine .cons (.cell (by rfl) (by exact At.f) TAg.h TSize.h (by exact rfl) (by exact rfl)) (by rfl) ?_))) (hS : (S' ++ Sf).Sublist st.S := by exact Sub.f) : Ends P res Sf Q st := ⟨rs, rs, st.S, S', h, CVs_id _ _, hS, e⟩
section
variable {P : Program} {dst : Option Tmp} {ty t ty2 : TypeId} {pos : String} {after : Array Edge} {g : Option (Nat × Bool)} {T : List (Nat × AV)} {S : List Slot} {c : Option (List Bool)} {x y : Operand} {i j : Int}
theorem W.mulE (k : Int) (h : i * j = k) (hr : -9223372036854775808 ≤ k ∧ k ≤ 9223372036854775807) (hx : Rd c T x (.prim (.int .i64 i))) (hy : Rd c T y (.prim (.int .i64 j))) : Stp c P ⟨dst, .binOp .mul t x y ty2, ty, pos, after, g⟩ T S [(x, .prim (.int .i64 i)), (y, .prim (.int .i64 j))] [] (.prim (.int .i64 k)) [] := h ▸ W.mul hx hy (h ▸ hr)
theorem W.quoN (a b : Nat) (k : Nat) (hi : i = (a : Int)) (hj : j = (b : Int)) (h0 : 0 < b) (h : a / b = k) (hr : a ≤ 9223372036854775807) (hx : Rd c T x (.prim (.int .i64 i))) (hy : Rd c T y (.prim (.int .i64 j))) : Stp c P ⟨dst, .binOp .quo t x y ty2, ty, pos, after, g⟩ T S [(x, .prim (.int .i64 i)), (y, .prim (.int .i64 j))] [] (.prim (.int .i64 (k : Int))) [] := by
  have h1 : IntKind.i64.wrap (i.tdiv j) = (k : Int) := by
    subst hi hj h
    rw [← Int.ofNat_tdiv]
    have := Nat.div_le_self a b
    generalize a / b = q at this ⊢
    exact wrap_id (by omega) (by omega)
  exact h1 ▸ W.quoW hx hy (by omega)
end
end Go.Proofs.Ytbfcbfgpbbkecaa

namespace Go.Proofs.Ytbfcbfgpbbkecaa
set_option linter.unusedVariables false
abbrev uA (x : UInt64) : AV := .prim (.int .u64 ((x.toNat : Nat) : Int))
section
variable {P : Program} {dst : Option Tmp} {ty t ty2 : TypeId} {pos : String} {after : Array Edge} {g : Option (Nat × Bool)} {T : List (Nat × AV)} {S : List Slot} {c : Option (List Bool)} {x y : Operand} {i j : Int} {k k' : IntKind} {a b : UInt64}
theorem OpT.res {o : Oper} {xs : List (Operand × AV)} {rS wS : List (Nat × Slot)} {r r' : Int} (h : OpT P o xs rS (.prim (.int k r)) wS) (e : r = r') : OpT P o xs rS (.prim (.int k r')) wS := e ▸ h
theorem u64_lt (a : UInt64) : a.toNat < 18446744073709551616 := a.toNat_lt
theorem OpT.bitsI {bop : BinOp} (hb : bop = .and ∨ bop = .or ∨ bop = .xor) : OpT P ⟨dst, .binOp bop t x y ty2, ty, pos, after, g⟩ [(x, .prim (.int k i)), (y, .prim (.int k j))] [] (.prim (.int k (bits bop k i j))) [] :=
  run_binOp rfl (fun w => by
    rcases hb with rfl | rfl | rfl
    · rw [binOp_and, intBits_and]; rfl
    · rw [binOp_or, intBits_or]; rfl
    · rw [binOp_xor, intBits_xor]; rfl) (.inl (by rcases hb with rfl | rfl | rfl <;> exact ⟨by simp, by simp⟩))
theorem W.andU (hx : Rd c T x (uA a)) (hy : Rd c T y (uA b)) : Stp c P ⟨dst, .binOp .and t x y ty2, ty, pos, after, g⟩ T S [(x, uA a), (y, uA b)] [] (uA (a &&& b)) [] := by
  have h := u64_and_nat a.toNat b.toNat (u64_lt a) (u64_lt b)
  rw [← UInt64.toNat_and] at h
  exact ⟨.res (OpT.bitsI (.inl rfl)) h, .cons hx (.cons hy .nil), .nil⟩
theorem W.orU (hx : Rd c T x (uA a)) (hy : Rd c T y (uA b)) : Stp c P ⟨dst, .binOp .or t x y ty2, ty, pos, after, g⟩ T S [(x, uA a), (y, uA b)] [] (uA (a ||| b)) [] := by
  have h := u64_or_nat a.toNat b.toNat (u64_lt a) (u64_lt b)
  rw [← UInt64.toNat_or] at h
  exact ⟨.res (OpT.bitsI (.inr (.inl rfl))) h, .cons hx (.cons hy .nil), .nil⟩
theorem W.xorU (hx : Rd c T x (uA a)) (hy : Rd c T y (uA b)) : Stp c P ⟨dst, .binOp .xor t x y ty2, ty, pos, after, g⟩ T S [(x, uA a), (y, uA b)] [] (uA (a ^^^ b)) [] := by
  have h := u64_xor_nat a.toNat b.toNat (u64_lt a) (u64_lt b)
  rw [← UInt64.toNat_xor] at h
  exact ⟨.res (OpT.bitsI (.inr (.inr rfl))) h, .cons hx (.cons hy .nil), .nil⟩
theorem wrapU (n : Int) : IntKind.u64.wrap n = n % 18446744073709551616 := IntKind.wrap_u64 n
theorem W.addU (hx : Rd c T x (uA a)) (hy : Rd c T y (uA b)) : Stp c P ⟨dst, .binOp .add t x y ty2, ty, pos, after, g⟩ T S [(x, uA a), (y, uA b)] [] (uA (a + b)) [] := by
  have h : IntKind.u64.wrap ((a.toNat : Int) + b.toNat) = (((a + b).toNat : Nat) : Int) := by
    rw [wrapU, UInt64.toNat_add]; omega
  exact ⟨.res (OpT.int_arith_add) h, .cons hx (.cons hy .nil), .nil⟩
theorem W.mulU (hx : Rd c T x (uA a)) (hy : Rd c T y (uA b)) : Stp c P ⟨dst, .binOp .mul t x y ty2, ty, pos, after, g⟩ T S [(x, uA a), (y, uA b)] [] (uA (a * b)) [] := by
  have h : IntKind.u64.wrap ((a.toNat : Int) * b.toNat) = (((a * b).toNat : Nat) : Int) := by
    rw [wrapU, UInt64.toNat_mul, Int.natCast_emod, Int.natCast_mul]; rfl
  exact ⟨.res (OpT.int_arith_mul) h, .cons hx (.cons hy .nil), .nil⟩
/-- A shift by fewer than 64 bits. -/
theorem W.shlU (n : Nat) (hn : n < 64) (hx : Rd c T x (uA a)) (hy : Rd c T y (.prim (.int k' j))) (hj : j = (n : Int)) : Stp c P ⟨dst, .binOp .shl t x y ty2, ty, pos, after, g⟩ T S [(x, uA a), (y, .prim (.int k' j))] [] (uA (a <<< UInt64.ofNat n)) [] := by
  have h : IntKind.u64.wrap ((a.toNat : Int) * 2 ^ n) = (((a <<< UInt64.ofNat n).toNat : Nat) : Int) := by
    rw [wrapU, UInt64.toNat_shiftLeft, UInt64.toNat_ofNat', show n % 2 ^ 64 % 64 = n by omega, Nat.shiftLeft_eq, Int.natCast_emod, Int.natCast_mul, Int.natCast_pow]; rfl
  exact ⟨.res (OpT.shl hj (by show n ≤ 64; omega)) h, .cons hx (.cons hy .nil), .nil⟩
theorem W.shrU (n : Nat) (hn : n < 64) (hx : Rd c T x (uA a)) (hy : Rd c T y (.prim (.int k' j))) (hj : j = (n : Int)) : Stp c P ⟨dst, .binOp .shr t x y ty2, ty, pos, after, g⟩ T S [(x, uA a), (y, .prim (.int k' j))] [] (uA (a >>> UInt64.ofNat n)) [] := by
  have h : (a.toNat : Int).fdiv (2 ^ n) = (((a >>> UInt64.ofNat n).toNat : Nat) : Int) := by
    rw [UInt64.toNat_shiftRight, UInt64.toNat_ofNat', show n % 2 ^ 64 % 64 = n by omega, Nat.shiftRight_eq_div_pow, Int.fdiv_eq_ediv_of_nonneg _ (Int.pow_nonneg (by decide)), Int.natCast_ediv, Int.natCast_pow]; rfl
  exact ⟨.res (OpT.shr hj (by show n ≤ 64; omega)) h, .cons hx (.cons hy .nil), .nil⟩
theorem OpT.convW {t2 : TypeId} {k0 : IntKind} (h1 : P.underlying t = some (.int k0)) (h2 : P.underlying t2 = some (.int k')) : OpT P ⟨dst, .convert t t2 x, ty, pos, after, g⟩ [(x, .prim (.int k i))] [] (.prim (.int k' (k'.wrap i))) [] :=
  .pure_ fun m a hx _ => by
    have e1 := (hx (x, .prim (.int k i)) (by simp)).prim
    refine ⟨.int k' (k'.wrap i), ?_, vv_prim _ rfl⟩
    simp only at e1
    simp [execOp, e1, convert, run_underlying h1, run_underlying h2, Conv.intToInt, Sem.run_bind, Sem.run_pure, Result.andThen_ok]
theorem W.convW {t2 : TypeId} (k0 k' : IntKind) (r : Int) (h1 : P.underlying t = some (.int k0)) (h2 : P.underlying t2 = some (.int k')) (hw : k'.wrap i = r) (hx : Rd c T x (.prim (.int k i))) : Stp c P ⟨dst, .convert t t2 x, ty, pos, after, g⟩ T S [(x, .prim (.int k i))] [] (.prim (.int k' r)) [] := ⟨.res (OpT.convW h1 h2) hw, .cons hx .nil, .nil⟩
theorem wrapU_ofInt (i : Int) : IntKind.u64.wrap i = (((UInt64.ofInt i).toNat : Nat) : Int) := by
  rw [wrapU]
  unfold UInt64.ofInt
  rw [UInt64.toNat_ofNat']
  omega
/-- Any whole number as an unsigned one. -/
theorem W.toU {t2 : TypeId} (k0 : IntKind) (h1 : P.underlying t = some (.int k0)) (h2 : P.underlying t2 = some (.int .u64)) (hx : Rd c T x (.prim (.int k i))) : Stp c P ⟨dst, .convert t t2 x, ty, pos, after, g⟩ T S [(x, .prim (.int k i))] [] (uA (UInt64.ofInt i)) [] := W.convW k0 .u64 _ h1 h2 (wrapU_ofInt i) hx
/-- A number as an unsigned one, told by its value. -/
theorem W.toUN {t2 : TypeId} (k0 : IntKind) (n : Nat) (hi : i = (n : Int)) (hn : n < 18446744073709551616) (h1 : P.underlying t = some (.int k0)) (h2 : P.underlying t2 = some (.int .u64)) (hx : Rd c T x (.prim (.int k i))) : Stp c P ⟨dst, .convert t t2 x, ty, pos, after, g⟩ T S [(x, .prim (.int k i))] [] (uA (UInt64.ofNat n)) [] := by
  refine W.convW k0 .u64 _ h1 h2 ?_ hx
  rw [wrapU, UInt64.toNat_ofNat', Nat.mod_eq_of_lt (by omega)]
  omega
/-- An unsigned number that is small, as an int. -/
theorem W.ofUN {t2 : TypeId} (k0 : IntKind) (hn : a.toNat < 9223372036854775808) (h1 : P.underlying t = some (.int k0)) (h2 : P.underlying t2 = some (.int .i64)) (hx : Rd c T x (uA a)) : Stp c P ⟨dst, .convert t t2 x, ty, pos, after, g⟩ T S [(x, uA a)] [] (.prim (.int .i64 ((a.toNat : Nat) : Int))) [] :=
  W.convW k0 .i64 _ h1 h2 (wrap_id (by omega) (by omega)) hx
end
end Go.Proofs.Ytbfcbfgpbbkecaa

namespace Go.Proofs.Ytbfcbfgpbbkecaa
set_option linter.unusedVariables false
abbrev yA (x : UInt8) : AV := .prim (.int .u8 ((x.toNat : Nat) : Int))
section
variable {P : Program} {dst : Option Tmp} {ty t ty2 : TypeId} {pos : String} {after : Array Edge} {g : Option (Nat × Bool)} {T : List (Nat × AV)} {S : List Slot} {c : Option (List Bool)} {x y : Operand} {i j : Int} {k k' : IntKind} {a b : UInt8} {v : UInt64}
theorem u8_lt (a : UInt8) : a.toNat < 256 := a.toNat_lt
theorem wrapY (n : Int) : IntKind.u8.wrap n = n % 256 := IntKind.wrap_u8' n
theorem W.andY (hx : Rd c T x (yA a)) (hy : Rd c T y (yA b)) : Stp c P ⟨dst, .binOp .and t x y ty2, ty, pos, after, g⟩ T S [(x, yA a), (y, yA b)] [] (yA (a &&& b)) [] := by
  have h := u8_and_nat a.toNat b.toNat (u8_lt a) (u8_lt b)
  rw [← UInt8.toNat_and] at h
  exact ⟨.res (OpT.bitsI (.inl rfl)) h, .cons hx (.cons hy .nil), .nil⟩
theorem W.orY (hx : Rd c T x (yA a)) (hy : Rd c T y (yA b)) : Stp c P ⟨dst, .binOp .or t x y ty2, ty, pos, after, g⟩ T S [(x, yA a), (y, yA b)] [] (yA (a ||| b)) [] := by
  have h := u8_or_nat a.toNat b.toNat (u8_lt a) (u8_lt b)
  rw [← UInt8.toNat_or] at h
  exact ⟨.res (OpT.bitsI (.inr (.inl rfl))) h, .cons hx (.cons hy .nil), .nil⟩
theorem W.addY (hx : Rd c T x (yA a)) (hy : Rd c T y (yA b)) : Stp c P ⟨dst, .binOp .add t x y ty2, ty, pos, after, g⟩ T S [(x, yA a), (y, yA b)] [] (yA (a + b)) [] := by
  have h : IntKind.u8.wrap ((a.toNat : Int) + b.toNat) = (((a + b).toNat : Nat) : Int) := by
    rw [wrapY, UInt8.toNat_add]; omega
  exact ⟨.res (OpT.int_arith_add) h, .cons hx (.cons hy .nil), .nil⟩
theorem W.shlY (n : Nat) (hn : n < 8) (hx : Rd c T x (yA a)) (hy : Rd c T y (.prim (.int k' j))) (hj : j = (n : Int)) : Stp c P ⟨dst, .binOp .shl t x y ty2, ty, pos, after, g⟩ T S [(x, yA a), (y, .prim (.int k' j))] [] (yA (a <<< UInt8.ofNat n)) [] := by
  have h : IntKind.u8.wrap ((a.toNat : Int) * 2 ^ n) = (((a <<< UInt8.ofNat n).toNat : Nat) : Int) := by
    rw [wrapY, UInt8.toNat_shiftLeft, UInt8.toNat_ofNat', show n % 2 ^ 8 % 8 = n by omega, Nat.shiftLeft_eq, Int.natCast_emod, Int.natCast_mul, Int.natCast_pow]; rfl
  exact ⟨.res (OpT.shl hj (by show n ≤ 8; omega)) h, .cons hx (.cons hy .nil), .nil⟩
theorem W.shrY (n : Nat) (hn : n < 8) (hx : Rd c T x (yA a)) (hy : Rd c T y (.prim (.int k' j))) (hj : j = (n : Int)) : Stp c P ⟨dst, .binOp .shr t x y ty2, ty, pos, after, g⟩ T S [(x, yA a), (y, .prim (.int k' j))] [] (yA (a >>> UInt8.ofNat n)) [] := by
  have h : (a.toNat : Int).fdiv (2 ^ n) = (((a >>> UInt8.ofNat n).toNat : Nat) : Int) := by
    rw [UInt8.toNat_shiftRight, UInt8.toNat_ofNat', show n % 2 ^ 8 % 8 = n by omega, Nat.shiftRight_eq_div_pow, Int.fdiv_eq_ediv_of_nonneg _ (Int.pow_nonneg (by decide)), Int.natCast_ediv, Int.natCast_pow]; rfl
  exact ⟨.res (OpT.shr hj (by show n ≤ 8; omega)) h, .cons hx (.cons hy .nil), .nil⟩
/-- The lowest byte of any whole number. -/
theorem W.toY {t2 : TypeId} (k0 : IntKind) (h1 : P.underlying t = some (.int k0)) (h2 : P.underlying t2 = some (.int .u8)) (hx : Rd c T x (.prim (.int k i))) : Stp c P ⟨dst, .convert t t2 x, ty, pos, after, g⟩ T S [(x, .prim (.int k i))] [] (yA (UInt8.ofInt i)) [] := by
  refine W.convW k0 .u8 _ h1 h2 ?_ hx
  rw [wrapY]
  unfold UInt8.ofInt
  rw [UInt8.toNat_ofNat']
  omega
/-- The lowest byte of an unsigned number. -/
theorem W.uToY {t2 : TypeId} (k0 : IntKind) (h1 : P.underlying t = some (.int k0)) (h2 : P.underlying t2 = some (.int .u8)) (hx : Rd c T x (uA v)) : Stp c P ⟨dst, .convert t t2 x, ty, pos, after, g⟩ T S [(x, uA v)] [] (yA v.toUInt8) [] := by
  refine W.convW k0 .u8 _ h1 h2 ?_ hx
  rw [wrapY, UInt64.toNat_toUInt8]
  omega
/-- A byte as an unsigned number. -/
theorem W.yToU {t2 : TypeId} (k0 : IntKind) (h1 : P.underlying t = some (.int k0)) (h2 : P.underlying t2 = some (.int .u64)) (hx : Rd c T x (yA a)) : Stp c P ⟨dst, .convert t t2 x, ty, pos, after, g⟩ T S [(x, yA a)] [] (uA a.toUInt64) [] := by
  refine W.convW k0 .u64 _ h1 h2 ?_ hx
  rw [wrapU, UInt8.toNat_toUInt64]
  have := u8_lt a
  omega
end
/-- The lowest bit of what is left of a number. -/
theorem bit_of (v : UInt64) (i : Nat) (h : i < 64) : (v >>> UInt64.ofNat i &&& 1).toUInt8 = (if v.toNat.testBit i then 1 else 0 : UInt8) := by
  apply UInt8.toNat_inj.1
  rw [UInt64.toNat_toUInt8, UInt64.toNat_and, UInt64.toNat_shiftRight, UInt64.toNat_ofNat', show i % 2 ^ 64 % 64 = i by omega]
  have h1 : (1 : UInt64).toNat = 1 := rfl
  rw [h1, Nat.and_one_is_mod]
  have h2 : v.toNat.testBit i = decide (v.toNat >>> i % 2 = 1) := by
    rw [Nat.testBit, Nat.and_comm, Nat.and_one_is_mod]
    rcases Nat.mod_two_eq_zero_or_one (v.toNat >>> i) with h | h <;> simp [h]
  rw [h2]
  rcases Nat.mod_two_eq_zero_or_one (v.toNat >>> i) with h | h <;> simp [h]
theorem bit_of8 (a : UInt8) (i : Nat) (h : i < 8) : (a >>> UInt8.ofNat i &&& 1).toUInt64 = (if a.toNat.testBit i then 1 else 0 : UInt64) := by
  apply UInt64.toNat_inj.1
  rw [UInt8.toNat_toUInt64, UInt8.toNat_and, UInt8.toNat_shiftRight, UInt8.toNat_ofNat', show i % 2 ^ 8 % 8 = i by omega]
  have h1 : (1 : UInt8).toNat = 1 := rfl
  rw [h1, Nat.and_one_is_mod]
  have h2 : a.toNat.testBit i = decide (a.toNat >>> i % 2 = 1) := by
    rw [Nat.testBit, Nat.and_comm, Nat.and_one_is_mod]
    rcases Nat.mod_two_eq_zero_or_one (a.toNat >>> i) with h | h <;> simp [h]
  rw [h2]
  rcases Nat.mod_two_eq_zero_or_one (a.toNat >>> i) with h | h <;> simp [h]
end Go.Proofs.Ytbfcbfgpbbkecaa

namespace Go.Proofs.Ytbfcbfgpbbkecaa
set_option linter.unusedVariables false
section
variable {P : Program} {dst : Option Tmp} {ty t ty2 : TypeId} {pos : String} {after : Array Edge} {g : Option (Nat × Bool)} {T : List (Nat × AV)} {S : List Slot} {c : Option (List Bool)} {x y : Operand} {i j : Int} {k : IntKind}
theorem W.remN (a b q : Nat) (hi : i = (a : Int)) (hj : j = (b : Int)) (h0 : 0 < b) (h : a % b = q) (hx : Rd c T x (.prim (.int k i))) (hy : Rd c T y (.prim (.int k j))) : Stp c P ⟨dst, .binOp .rem t x y ty2, ty, pos, after, g⟩ T S [(x, .prim (.int k i)), (y, .prim (.int k j))] [] (.prim (.int k (q : Int))) [] := by
  subst hi hj
  have e : ((a : Int)).tmod (b : Int) = (q : Int) := by rw [← h]; rfl
  exact e ▸ W.rem hx hy (by omega)
theorem W.shrE (n : Nat) (r : Int) {k' : IntKind} (h : i.fdiv (2 ^ n) = r) (hj : j = (n : Int)) (hn : n ≤ k.bits) (hx : Rd c T x (.prim (.int k i))) (hy : Rd c T y (.prim (.int k' j))) : Stp c P ⟨dst, .binOp .shr t x y ty2, ty, pos, after, g⟩ T S [(x, .prim (.int k i)), (y, .prim (.int k' j))] [] (.prim (.int k r)) [] := by
  subst h
  exact W.shr n hx hy hj hn
end
end Go.Proofs.Ytbfcbfgpbbkecaa

namespace Go.Proofs.Ytbfcbfgpbbkecaa
set_option linter.unusedVariables false
mutual
/-- Values that refer to nothing but what they own. -/
def AV.loose : AV → Bool
  | .prim _ => true
  | .dead => true
  | .agg cs => AV.looses cs
  | .tup vs => AV.looses vs
  | .lst o _ _ l => (o || l.isEmpty) && AV.looses l
  | .bx _ a => AV.loose a
  | .fn _ cap => AV.looses cap
  | _ => false
def AV.looses : List AV → Bool
  | [] => true
  | a :: as => AV.loose a && AV.looses as
end
theorem looses_map {α : Type} {f : α → AV} (h : ∀ a, (f a).loose = true) (l : List α) : AV.looses (l.map f) = true := by
  induction l with
  | nil => rfl
  | cons a l ih => rw [List.map_cons, AV.looses, h a, ih]; rfl
section
variable {m m' : Mem}
mutual
theorem VC.loose (hw : m'.w = m.w) : (a : AV) → {c : List Value} → {bs : List Nat} → a.loose = true → VC m a c bs → VC m' a c bs
  | .prim _, _, _, _, k => k
  | .dead, _, _, _, k => k
  | .agg cs, _, _, h, k => VCs.loose hw cs h k
  | .tup cs, _, _, _, k => k.elim
  | .opt _ _, _, _, _, k => k.elim
  | .lst false t sz [], _, _, _, ⟨e, A, cap, e1, e2, e3, k⟩ => ⟨e, A, cap, e1, e2, e3, fun h0 => absurd h0 (by simp)⟩
  | .lst false t sz (a :: l), _, _, h, k => by simp [AV.loose] at h
  | .lst true t sz l, _, _, _, .inl k => .inl k
  | .lst true t sz l, _, _, h, .inr ⟨g, cap, arr, bs', e1, e2, e3, e4, e5, e6, e7, k⟩ => .inr ⟨g, cap, arr, bs', e1, e2, by rw [hw]; exact e3, e4, e5, e6, e7, VCs.loose hw l (by simpa [AV.loose] using h) k⟩
  | .bx t a, _, _, h, ⟨g, arr, bs', e1, e2, e3, e4, k⟩ => ⟨g, arr, bs', e1, e2, by rw [hw]; exact e3, e4, VC.loose hw a (by simpa [AV.loose] using h) k⟩
  | .sl x off len, _, _, h, k => by simp [AV.loose] at h
  | .ptr x i j, _, _, h, k => by simp [AV.loose] at h
  | .fp cs, _, _, h, k => by simp [AV.loose] at h
  | .fn f cap, _, _, h, ⟨vs, e, k⟩ => ⟨vs, e, VCs.loose hw cap (by simpa [AV.loose] using h) k⟩
  | .mp x, _, _, h, k => by simp [AV.loose] at h
theorem VCs.loose (hw : m'.w = m.w) : (as : List AV) → {c : List Value} → {bs : List Nat} → AV.looses as = true → VCs m as c bs → VCs m' as c bs
  | [], _, _, _, k => k
  | a :: as, _, _, h, ⟨c1, c2, b1, b2, e1, e2, k1, k2⟩ => ⟨c1, c2, b1, b2, e1, e2, VC.loose hw a (by simp [AV.looses] at h; exact h.1) k1, VCs.loose hw as (by simp [AV.looses] at h; exact h.2) k2⟩
end
theorem VV.looseN (hw : m'.w = m.w) {a : AV} {v : Value} {bs : List Nat} (hn : ntup a = true) (h : a.loose = true) (k : VV m a v bs) : VV m' a v bs := by
  cases a
  case agg cs => obtain ⟨cells, e, k⟩ := k; exact ⟨cells, e, VCs.loose hw cs h k⟩
  case tup cs => cases hn
  case opt c b => cases hn
  case dead => exact k
  all_goals exact VC.loose hw _ h k
theorem VTs.loose (hw : m'.w = m.w) : {as : List AV} → {vs : List Value} → {bs : List Nat} → AV.looses as = true → VTs m as vs bs → VTs m' as vs bs
  | [], _, _, _, k => k
  | a :: as, _, _, h, k => by
    have ha := VTs.ntup k
    simp only [AV.looses, Bool.and_eq_true] at h
    obtain ⟨v, vs', b1, b2, e1, e2, k1, k2⟩ := (VTs_cons ha).1 k
    exact (VTs_cons ha).2 ⟨v, vs', b1, b2, e1, e2, VV.looseN hw ha h.1 k1, VTs.loose hw h.2 k2⟩
theorem VV.loose (hw : m'.w = m.w) {a : AV} {v : Value} {bs : List Nat} (h : a.loose = true) (k : VV m a v bs) : VV m' a v bs := by
  cases a
  case tup cs => obtain ⟨vs, e, k⟩ := k; exact ⟨vs, e, VTs.loose hw h k⟩
  case opt c b => simp [AV.loose] at h
  all_goals exact VV.looseN hw rfl h k
end
/-- The memory in which all that objects own is frozen. -/
def Mem.lent (m : Mem) (Z : Zs) : Mem := ⟨m.μ, m.U, m.w, fun b => m.F b ∨ b ∈ Z.own⟩
theorem Mem.le_lent (m : Mem) (Z : Zs) : m.Le (m.lent Z) := ⟨fun _ h => h, fun _ _ _ h => h, fun b h => ⟨.inl h, rfl⟩⟩
theorem Spec.lendG {P : Program} {f : FuncId} {args args' : List AV} {S : List Slot} {Q : AV → List Slot → Prop} (h : Spec P f args [] Q) (hQ : ∀ r S', Q r S' → r.loose = true ∧ S' = [])
    (hv : ∀ (m : Mem) (Z : Zs) (Sf : List Slot), (∀ z ∈ Z, ORel m z.1.1 z.1.2 z.2) → Z.map (·.1) = S ++ Sf → ∀ us, VTs m args' us [] → VTs (m.lent Z) args us []) :
    Spec P f args' S fun r S' => Q r [] ∧ S' = S :=
  ⟨h.fn, fun Sf m N Z vals h1 h2 h3 => by
    have G1 : Good (m.lent Z) (m.lent Z) N [] [] := by
      refine ⟨(fun z hz => by cases hz), by simp [Zs.own], (fun b hb => by simp [Zs.own] at hb), fun b hb => ?_, by simp [Zs.keys], (fun x hx => by simp [Zs.keys] at hx), h2.usedN, .refl _, rfl, rfl, rfl, Nat.le_refl _⟩
      rcases hb with hb | hb
      · exact h2.frz b hb
      · exact (h2.blk b (by simpa using hb)).1
    refine (h.run [] (m.lent Z) N [] vals rfl G1 (hv m Z Sf h2.obj h1 _ h3)).mono ?_
    rintro e w' ⟨v, r, S', m2, N', Z', br, rfl, rfl, hm, G2, hr, hq⟩
    obtain ⟨hl, rfl⟩ := hQ r S' hq
    have hZ : Z' = [] := by simpa using hm
    subst hZ
    have hF : ∀ b, m.F b ∨ b ∈ Z.own → m2.F b ∧ m2.w.heap[b]? = m.w.heap[b]? := fun b hb => G2.le.F b hb
    have hbr : ∀ b ∈ br, b < m2.w.heap.size ∧ ¬ m2.F b := fun b hb => G2.blk b (by simpa [Zs.own] using hb)
    refine ⟨v, r, S, ⟨m.μ, m.U, m2.w, m.F⟩, N, Z, br, rfl, rfl, h1, ?_, VV.loose (m := m2) (m' := ⟨m.μ, m.U, m2.w, m.F⟩) rfl hl hr, hq, rfl⟩
    have hle : m.Le ⟨m.μ, m.U, m2.w, m.F⟩ := ⟨fun _ h => h, fun _ _ _ h => h, fun b hb => ⟨hb, (hF b (.inl hb)).2⟩⟩
    refine ⟨fun z hz => ?_, ?_, fun b hb => ?_, fun b hb => ?_, h2.keys, h2.keyN, h2.usedN, hle, G2.os, G2.tape, G2.output, G2.size⟩
    · refine ORel.mono hle (fun e => ?_) (fun L hL => hL) (fun b hb => (hF b (.inr (List.mem_flatMap.2 ⟨z, hz, hb⟩))).2) (h2.obj z hz)
      have := h2.obj z hz
      rw [e] at this
      exact this.2
    · rw [List.nodup_append]
      refine ⟨by simpa using h2.own, by simpa [Zs.own] using G2.own, fun a ha b hb e => ?_⟩
      subst e
      exact (hbr a hb).2 (hF a (.inr ha)).1
    · rcases List.mem_append.1 hb with hb | hb
      · have := h2.blk b (by simpa using hb)
        exact ⟨Nat.lt_of_lt_of_le this.1 G2.size, this.2⟩
      · exact ⟨(hbr b hb).1, fun hf => (hbr b hb).2 (hF b (.inl hf)).1⟩
    · exact Nat.lt_of_lt_of_le (h2.frz b hb) G2.size⟩
mutual
/-- The value a reads as b while the objects S are lent. -/
inductive Ld (S : List Slot) : AV → AV → Prop
  | frz {a : AV} : Ld S a a.frz
  | nil {t : TypeId} {sz : Nat} : Ld S (.prim (.slice none 0 0)) (.lst false t sz [])
  | agg {as bs : List AV} (h : Lds S as bs) : Ld S (.agg as) (.agg bs)
  | lst {o : Bool} {t : TypeId} {sz : Nat} {l l' : List AV} (h : Lds S l l') : Ld S (.lst o t sz l) (.lst false t sz l')
  | sl {X off n p : Nat} {t : TypeId} {sz : Nat} {l l' : List AV} (h : At S p (X, .row t sz l)) (hn : off + n ≤ l.length) (k : Lds S ((l.drop off).take n) l') : Ld S (.sl X off n) (.lst false t sz l')
  | ptr {X p : Nat} {t : TypeId} {sz : Nat} {a b : AV} {cs : List AV} (h : At S p (X, .row t sz [a])) (k : Ld S a b) (e : b.cells = cs) : Ld S (.ptr X 0 0) (.fp cs)
inductive Lds (S : List Slot) : List AV → List AV → Prop
  | nil : Lds S [] []
  | cons {a b : AV} {as bs : List AV} (h : Ld S a b) (k : Lds S as bs) : Lds S (a :: as) (b :: bs)
end
theorem Lds.len {S : List Slot} : ∀ {as bs : List AV}, Lds S as bs → bs.length = as.length
  | [], _, h => by cases h; rfl
  | a :: as, _, h => by cases h with | cons h k => simp [Lds.len k]
mutual
theorem Ld.width {S : List Slot} : ∀ {a b : AV}, Ld S a b → b.width = a.width
  | _, _, .frz => frz_width _
  | _, _, .nil => rfl
  | _, _, .agg h => Lds.widths h
  | _, _, .lst _ => rfl
  | _, _, .sl _ _ _ => rfl
  | _, _, .ptr _ _ _ => rfl
theorem Lds.widths {S : List Slot} : ∀ {as bs : List AV}, Lds S as bs → AV.widths bs = AV.widths as
  | _, _, .nil => rfl
  | _, _, .cons h k => by simp only [AV.widths, Ld.width h, Lds.widths k]
end
theorem Lds.wsz {S : List Slot} {sz : Nat} : ∀ {a b : List AV}, Lds S a b → (∀ e ∈ a, e.width = sz) → ∀ e ∈ b, e.width = sz
  | _, _, .nil, _, e, he => by cases he
  | a :: as, b :: bs, .cons h k, hw, e, he => by
    rcases List.mem_cons.1 he with rfl | he
    · rw [Ld.width h]; exact hw a (by simp)
    · exact Lds.wsz k (fun x hx => hw x (by simp [hx])) e he
section
variable {m : Mem} {S Sf : List Slot} {Z : Zs}
theorem lent_at (hO : ∀ z ∈ Z, ORel m z.1.1 z.1.2 z.2) (hm : Z.map (·.1) = S ++ Sf) {p X : Nat} {t : TypeId} {sz : Nat} {l : List AV} (h : At S p (X, .row t sz l)) : ∃ bs, ORel m X (.row t sz l) bs ∧ ∀ b ∈ bs, b ∈ Z.own := by
  have hg := h.get
  obtain ⟨hp, _⟩ := List.getElem?_eq_some_iff.1 hg
  have h2 : (Z.map (·.1))[p]? = some (X, .row t sz l) := by rw [hm, List.getElem?_append_left hp]; exact hg
  rw [List.getElem?_map] at h2
  cases hz : Z[p]? with
  | none => rw [hz] at h2; cases h2
  | some z =>
    rw [hz] at h2
    injection h2 with h2
    have hzm := List.mem_of_getElem? hz
    have := hO z hzm
    have h2 : z.1 = (X, AO.row t sz l) := h2
    rw [h2] at this
    exact ⟨z.2, this, fun b hb => List.mem_flatMap.2 ⟨z, hzm, hb⟩⟩
mutual
theorem Ld.vc (hO : ∀ z ∈ Z, ORel m z.1.1 z.1.2 z.2) (hm : Z.map (·.1) = S ++ Sf) : ∀ {a b : AV}, Ld S a b → ∀ {c : List Value} {bs : List Nat}, (∀ x ∈ bs, x ∈ Z.own) → VC m a c bs → VC (m.lent Z) b c []
  | _, _, .frz, c, bs, hb, k => VC.frz (m.le_lent Z) _ (fun b hbb => ⟨.inr (hb b hbb), rfl⟩) k
  | _, _, .nil, c, bs, hb, k => by
    obtain ⟨⟨rfl, _⟩, _⟩ := k
    exact ⟨rfl, none, 0, rfl, Nat.le_refl _, (fun e he => by cases he), fun h => absurd h (by simp)⟩
  | _, _, .agg h, c, bs, hb, k => Lds.vcs hO hm h hb k
  | _, _, .lst (o := false) (l' := l') h, c, bs, hb, ⟨e, A, cap, e1, e2, e3, k⟩ => by
    refine ⟨rfl, A, cap, by rw [h.len]; exact e1, by rw [h.len]; exact e2, h.wsz e3, fun h0 => ?_⟩
    rw [h.len] at h0 ⊢
    obtain ⟨b, off, arr, t, r, q1, q2, q3, q4⟩ := k h0
    exact ⟨b, off, arr, t, r, q1, .inl q2, q3, Lds.vcs hO hm h (by simp) q4⟩
  | _, _, .lst (o := true) h, c, bs, hb, .inl ⟨e1, e2, e3⟩ => by
    subst e2
    cases h
    exact ⟨rfl, none, 0, e1, Nat.le_refl _, (fun e he => by cases he), fun h => absurd h (by simp)⟩
  | _, _, .lst (o := true) h, c, bs, hb, .inr ⟨g, cap, arr, bs', e1, e2, e3, e4, e5, e6, e7, k⟩ => by
    refine ⟨rfl, some ⟨g, 0, none⟩, cap, by rw [h.len]; exact e1, by rw [h.len]; exact e5, h.wsz e7, fun h0 => ?_⟩
    rw [h.len]
    exact ⟨g, 0, arr, _, (0, 0), rfl, .inr (hb g (by simp [e2])), e3, Lds.vcs hO hm h (fun x hx => hb x (by rw [e2]; exact List.mem_cons_of_mem _ hx)) (by rw [List.drop_zero]; exact k)⟩
  | _, _, .sl (off := off) (n := n) (l := l) (l' := l') h hn hl, c, bs, hb, ⟨_, hU, A, q, e1, hs⟩ => by
    obtain ⟨bs2, hR, hb2⟩ := lent_at hO hm h
    obtain ⟨_, L, hL, hsz, hR⟩ := hR
    have hfl : l'.length = n := by rw [hl.len, List.length_take, List.length_drop]; omega
    refine ⟨rfl, A, q, by rw [hfl]; exact e1, ?_, ?_, fun h0 => ?_⟩
    · rcases hs L hL with ⟨_, h2, _, h3⟩ | ⟨_, h2, o, h3, _⟩
      · omega
      · injection h3 with h4 h5 h6
        omega
    · refine hl.wsz fun e he => ?_
      rcases hR with ⟨_, rfl, _⟩ | ⟨_, arr, bs', _, _, _, _, _, hw, _⟩
      · simp at he
      · exact hw e (List.mem_of_mem_drop (List.mem_of_mem_take he))
    · rw [hfl] at h0 ⊢
      rcases hs L hL with ⟨_, _, _, h3⟩ | ⟨h1, h2, o, h3, h4⟩
      · omega
      · rcases hR with ⟨_, rfl, _⟩ | ⟨_, arr, bs', rfl, h6, h7, h8, h9, h10, h11⟩
        · simp at hn; omega
        · injection h3 with h12 h13 h14
          have ho := h4 (.inl (by omega))
          obtain ⟨p1, p2, e1, _, k1⟩ := VCs.take h10 h11 (k := off) (by omega)
          obtain ⟨p3, p4, e2, k2, _⟩ := VCs.take (l := l.drop off) (fun e he => h10 e (List.mem_of_mem_drop he)) k1 (k := n) (by rw [List.length_drop]; omega)
          refine ⟨L.blk, o, arr, _, (0, 0), h12, .inr (hb2 _ (by simp)), h6, ?_⟩
          have hc : (arr.toList.drop o).take (n * L.sz) = ((arr.toList.take (l.length * L.sz)).drop (off * L.sz)).take (n * L.sz) := by
            rw [ho, List.drop_take, List.take_take, Nat.min_eq_left]
            rw [← Nat.sub_mul]
            exact Nat.mul_le_mul_right _ (by omega)
          subst hsz
          rw [hc]
          exact Lds.vcs hO hm hl (fun x hx => hb2 x (by simp [e1, e2, hx])) k2
  | _, _, .ptr (a := a) (b := b) h hl e, c, bs, hb, ⟨_, hU, A, e1, hA⟩ => by
    subst e
    obtain ⟨bs2, hR, hb2⟩ := lent_at hO hm h
    obtain ⟨_, L, hL, hsz, hR⟩ := hR
    have hA := hA L hL
    subst hA
    rcases hR with ⟨_, h5, _⟩ | ⟨_, arr, bs', rfl, h6, h7, h8, h9, h10, h11⟩
    · cases h5
    · have hw := h10 a (by simp)
      have hv : VC m a (arr.toList.take a.width) bs' := by rw [hw]; simpa using VCs.one.1 h11
      have hf := VC.cells (Ld.vc hO hm hl (fun x hx => hb2 x (by simp [hx])) hv)
      refine ⟨rfl, L.blk, 0 * L.sz + 0, arr, _, (0, 0), e1, .inr (hb2 _ (by simp)), h6, ?_⟩
      have hl2 : AV.widths b.cells = a.width := by
        rw [← VCs.len _ hf, List.length_take, Nat.min_eq_left]
        have := VC.len _ hv
        rw [List.length_take] at this
        omega
      rw [hl2]
      simpa using hf
theorem Lds.vcs (hO : ∀ z ∈ Z, ORel m z.1.1 z.1.2 z.2) (hm : Z.map (·.1) = S ++ Sf) : ∀ {as bs : List AV}, Lds S as bs → ∀ {c : List Value} {bl : List Nat}, (∀ x ∈ bl, x ∈ Z.own) → VCs m as c bl → VCs (m.lent Z) bs c []
  | _, _, .nil, c, bl, hb, ⟨e, _⟩ => ⟨e, rfl⟩
  | _, _, .cons h k, c, bl, hb, ⟨c1, c2, b1, b2, e1, e2, k1, k2⟩ => ⟨c1, c2, [], [], e1, rfl, Ld.vc hO hm h (fun x hx => hb x (by simp [e2, hx])) k1, Lds.vcs hO hm k (fun x hx => hb x (by simp [e2, hx])) k2⟩
end
end
theorem Ld.tup {S : List Slot} {a b : AV} (h : Ld S a b) (ha : ntup a = true) : ntup b = true := by
  cases h with
  | frz => cases a <;> first | rfl | cases ha
  | _ => rfl
section
variable {m : Mem} {S Sf : List Slot} {Z : Zs}
theorem Ld.vv (hO : ∀ z ∈ Z, ORel m z.1.1 z.1.2 z.2) (hm : Z.map (·.1) = S ++ Sf) {a b : AV} (h : Ld S a b) {u : Value} (k : VV m a u []) : VV (m.lent Z) b u [] := by
  cases h with
  | frz => exact VV.frz (m.le_lent Z) (by simp) k
  | @nil t sz => exact Ld.vc hO hm (Ld.nil (S := S) (t := t) (sz := sz)) (bs := []) (by simp) k
  | agg h => obtain ⟨cells, e, k⟩ := k; exact ⟨cells, e, Lds.vcs hO hm h (by simp) k⟩
  | lst h => exact Ld.vc hO hm (.lst h) (by simp) k
  | sl h hn hl => exact Ld.vc hO hm (.sl h hn hl) (by simp) k
  | ptr h hl e => exact Ld.vc hO hm (.ptr h hl e) (by simp) k
theorem Lds.vts (hO : ∀ z ∈ Z, ORel m z.1.1 z.1.2 z.2) (hm : Z.map (·.1) = S ++ Sf) : ∀ {as bs : List AV}, Lds S as bs → ∀ {us : List Value}, VTs m as us [] → VTs (m.lent Z) bs us []
  | _, _, .nil, us, k => k
  | _, _, .cons h hk, us, k => by
    have ha := VTs.ntup k
    obtain ⟨v, vs', b1, b2, e1, e2, k1, k2⟩ := (VTs_cons ha).1 k
    obtain ⟨rfl, rfl⟩ : b1 = [] ∧ b2 = [] := by simpa using e2.symm
    exact (VTs_cons (h.tup ha)).2 ⟨v, vs', [], [], e1, rfl, h.vv hO hm k1, Lds.vts hO hm hk k2⟩
end
theorem Spec.lend {P : Program} {f : FuncId} {args args' : List AV} {S : List Slot} {Q : AV → List Slot → Prop} (h : Spec P f args [] Q) (hQ : ∀ r S', Q r S' → r.loose = true ∧ S' = []) (k : Lds S args' args) : Spec P f args' S fun r S' => Q r [] ∧ S' = S :=
  h.lendG hQ fun m Z Sf hO hm us hu => k.vts hO hm hu
theorem PS.lend {P : Program} {f : FuncId} {args args' : List AV} {S : List Slot} {r : AV} (h : PS P f args r) (hr : r.loose = true) (k : Lds S args' args) : Spec P f args' S fun r' S' => r' = r ∧ S' = S :=
  (Spec.lend h (fun r' S' ⟨e1, e2⟩ => ⟨e1 ▸ hr, e2⟩) k).mono fun r' S' ⟨⟨e1, _⟩, e2⟩ => ⟨e1, e2⟩
section
variable {P : Program} {ro : Option Nat} {nt : Nat} {ops : Array Oper} {Q : Exit → St → Prop} {rest : List Oper} {T : List (Nat × AV)} {S : List Slot} {ty : TypeId} {pos : String} {after : Array Edge} {dst : Option Tmp} {ats : Array TypeId} {f : FuncId} {xs : List (Operand × AV)} {args : List AV}
end
section
variable {P : Program} {ro : Option Nat} {nt : Nat} {ops : Array Oper} {Q : Exit → St → Prop} {rest : List Oper} {T : List (Nat × AV)} {S : List Slot} {ty : TypeId} {pos : String} {after : Array Edge} {dst : Option Tmp} {ats : Array TypeId} {f : FuncId} {r v : AV} {nw : List Slot}
end
end Go.Proofs.Ytbfcbfgpbbkecaa

namespace Go.Proofs.Ytbfcbfgpbbkecaa
set_option linter.unusedVariables false
variable {ro : Option Nat}
section
variable {P : Program} {nt : Nat} {ops : Array Oper} {Q : Exit → St → Prop} {rest : List Oper} {T : List (Nat × AV)} {S : List Slot} {f : FuncId} {x0 x1 x2 : Operand} {v0 v1 v2 r v : AV} {dst : Option Tmp} {ats : Array TypeId} {ty : TypeId} {pos : String} {after : Array Edge} {p1 p2 : Nat} {z1 z2 : Slot} {y1 y2 : Nat → Slot} {Sin Sout news : List Slot} {rS wS : List (Nat × Slot)}
/-- A call that hands two objects back, one of them at a new stamp. -/
theorem AOps.eQ3 (h : Spec P f [v0, v1, v2] [z1, z2] fun r' S' => ∃ b : Nat, r' = r ∧ S' = [y1 b, y2 b]) [hf : Frz r v] (k : ∀ b : Nat, AOps ro P nt ops Q rest ⟨putD T dst v, setAll S [(p1, y1 b), (p2, y2 b)]⟩)
    (a1 : At S p1 z1 := by exact At.f) (a2 : At S p2 z2 := by exact At.f) (hnd : nodupB [p1, p2] = true := by rfl) (h0 : Rd none T x0 v0 := by rfl) (h1 : Rd none T x1 v1 := by rfl) (h2 : Rd none T x2 v2 := by rfl) (ht : noTup [(x0, v0), (x1, v1), (x2, v2)] = true := by rfl) (hd : dstOk dst nt = true := by rfl) :
    AOps ro P nt ops Q (⟨dst, .call ⟨.value (.func f), #[x0, x1, x2], ats⟩, ty, pos, after, none⟩ :: rest) ⟨T, S⟩ :=
  AOps.callE (xs := [(x0, v0), (x1, v1), (x2, v2)]) (C := fun _ => True) (rr := fun _ => r) (vv := fun _ => v) (So := fun b => [y1 b, y2 b]) (nw := fun _ => []) (gs := []) (rS := [(p1, z1), (p2, z2)]) (wE := fun b => [(p1, y1 b), (p2, y2 b)])
    (h.mono fun r' S' ⟨b, e1, e2⟩ => ⟨b, trivial, e1, e2⟩) (fun _ => .fz) (fun _ => rfl) (fun b => .cons a1 (.cons a2 .nil)) (nodupB_spec hnd) rfl (.cons a1 (.cons a2 .nil)) (.cons h0 (.cons h1 (.cons h2 .nil))) ht hd (fun b _ => k b)
end
end Go.Proofs.Ytbfcbfgpbbkecaa

namespace Go.Proofs.Ytbfcbfgpbbkecaa
set_option linter.unusedVariables false
section
variable {P : Program} {dst : Option Tmp} {ty t ty2 : TypeId} {pos : String} {after : Array Edge} {g : Option (Nat × Bool)} {T : List (Nat × AV)} {S : List Slot} {c : Option (List Bool)} {x y : Operand} {a b : UInt64}
end
section
variable {P : Program} {ro : Option Nat} {nt : Nat} {ops : Array Oper} {Q : Exit → St → Prop} {rest : List Oper} {T : List (Nat × AV)} {S : List Slot} {op : Op} {ty : TypeId} {pos : String} {after : Array Edge} {dst : Option Tmp}
theorem put_noA {nt : Nat} {m0 : Mem} {a : Act} {w : World} (hd : ∀ d, dst = some d → d < nt) (h : Rel nt m0 ⟨T, S⟩ a w) : Rel nt m0 ⟨putD T dst noA, S⟩ (a.put dst undef) w := by
  obtain ⟨m, N, Z, h1, h2, h3, h4⟩ := h
  exact ⟨m, N, Z, h1, h2, h3, h4.put hd ⟨rfl, (fun h => by cases h), fun _ => rfl⟩⟩
/-- An operation that is left out; one whose guard was left out itself. -/
theorem AOps.goNU {g : Nat} {b b' : Bool} {t : Nat} (k : AOps ro P nt ops Q rest ⟨putD T dst noA, S⟩) (ht : (ops[g]?).bind (·.dst) = some t := by rfl) (hv : look T t = some (.prim (.bool b')) := by rfl) (hb : b' = !b := by first | rfl | assumption | (simp only [Bool.not_true, Bool.not_false]; assumption)) (hd : dstOk dst nt = true := by rfl) : AOps ro P nt ops Q (⟨dst, op, ty, pos, after, some (g, b)⟩ :: rest) ⟨T, S⟩ := by
  intro m0 a w hr
  refine wpListIn_step fun K hK => ?_
  have hy : yielded ops a.tmps g = some !b := by
    obtain ⟨m, N, Z, h1, h2, h3, h4, h5, h6⟩ := hr
    obtain ⟨u, hu1, hu2⟩ := h6 t _ hv
    obtain ⟨⟨e, _⟩, _⟩ := hu2
    injection e with e
    subst e hb
    simp [yielded, ht, hu1]
  rw [if_neg (by simp [Region.wanted, hy])]
  exact ⟨fun _ _ => trivial, hK _ _ (k m0 _ w (put_noA (dstOk_lt hd) hr))⟩
theorem AOps.goNV {g : Nat} {b : Bool} {t : Nat} (k : AOps ro P nt ops Q rest ⟨putD T dst noA, S⟩) (ht : (ops[g]?).bind (·.dst) = some t := by rfl) (hv : look T t = some noA := by rfl) (hd : dstOk dst nt = true := by rfl) : AOps ro P nt ops Q (⟨dst, op, ty, pos, after, some (g, b)⟩ :: rest) ⟨T, S⟩ := by
  intro m0 a w hr
  refine wpListIn_step fun K hK => ?_
  have hy : yielded ops a.tmps g = none := by
    obtain ⟨m, N, Z, h1, h2, h3, h4, h5, h6⟩ := hr
    obtain ⟨u, hu1, _, _, hu2⟩ := h6 t _ hv
    have hu2 := hu2 rfl
    subst hu2
    simp [yielded, ht, hu1, undef]
  rw [if_neg (by simp [Region.wanted, hy])]
  exact ⟨fun _ _ => trivial, hK _ _ (k m0 _ w (put_noA (dstOk_lt hd) hr))⟩
end
end Go.Proofs.Ytbfcbfgpbbkecaa

namespace Go.Proofs.Ytbfcbfgpbbkecaa
set_option linter.unusedVariables false
set_option linter.unusedSimpArgs false
variable {ro : Option Nat}
open Go.RowKit
/-- What is yielded: for a new stamp the values, and the objects that go with them. -/
abbrev YO := Nat → List AV × List Slot
section
variable {P : Program} {nt : Nat} {ops : Array Oper} {Q : Exit → St → Prop} {rest : List Oper} {T : List (Nat × AV)} {S Si Sl Sf : List Slot} {y : Value} {xs : List YO} {J : Nat → List Slot → Prop} {Jx : List Slot → Prop}
variable {dst : Option Tmp} {ty : TypeId} {pos : String} {after : Array Edge} {x : Operand} {ys : List (Operand × AV)} {ats : Array TypeId} {i : Nat}
end
section
variable {P : Program} {nt : Nat} {ops : Array Oper} {Q : Exit → St → Prop} {rest : List Oper} {T : List (Nat × AV)} {Si Sl Sf ob : List Slot} {y : Value} {xs : List YO} {J : Nat → List Slot → Prop} {Jx : List Slot → Prop} {dst : Option Tmp} {ty : TypeId} {pos : String} {after : Array Edge} {x x0 x1 : Operand} {v0 v1 : AV} {ats : Array TypeId} {i : Nat}
end
end Go.Proofs.Ytbfcbfgpbbkecaa

namespace Go.Proofs.Ytbfcbfgpbbkecaa
set_option linter.unusedVariables false
set_option linter.unusedSimpArgs false
variable {ro : Option Nat}
open Go.RowKit
section
variable {P : Program} {nt : Nat} {ops : Array Oper} {J : List Slot → Prop}
section
variable {Q : Exit → St → Prop} {l rest : List Oper} {acc : List Eff} {st : St} {T : List (Nat × AV)} {S : List Slot} {xs : List (Operand × AV)} {rS wS : List (Nat × Slot)} {v : AV} {op : Op} {ty : TypeId} {pos : String} {after : Array Edge} {dst : Option Tmp}
end
end
end Go.Proofs.Ytbfcbfgpbbkecaa

namespace Go.Proofs.Ytbfcbfgpbbkecaa
set_option linter.unusedVariables false
set_option linter.unusedSimpArgs false
variable {ro : Option Nat}
open Go.RowKit
section
variable {P : Program} {nt : Nat} {ops : Array Oper}
theorem stX_agree : ∀ {l l' : List Eff} {k : Nat} {X : Nat → Bool} {st : St}, l.length = l'.length → (∀ j, X (k + j) = true → l[j]? = l'[j]?) → stX l k X st = stX l' k X st
  | [], [], _, _, _, _, _ => rfl
  | [], _ :: _, _, _, _, h, _ => by simp at h
  | _ :: _, [], _, _, _, h, _ => by simp at h
  | e :: l, e' :: l', k, X, st, h, ha => by
    have ih := fun st => stX_agree (l := l) (l' := l') (k := k + 1) (X := X) (st := st) (by simpa using h) (fun j hj => by
      have := ha (j + 1) (by rw [show k + (j + 1) = k + 1 + j by omega]; exact hj)
      simpa using this)
    simp only [stX]
    cases hX : X k with
    | false => exact ih _
    | true =>
      have h0 := ha 0 (by simpa using hX)
      simp at h0
      rw [h0]
      exact ih _
theorem any_orderE {β : Type} {m0 : Mem} {st : St} {effs : β → List Eff} {b0 : β} {i0 : Nat} {Q' : Exit → Act → World → Prop} (heff : ∀ b, (effs b).map (·.o) = ops.toList) (hpre : ∀ b b' i, i < i0 → (effs b)[i]? = (effs b')[i]?)
    (hloc : ∀ b i e, i ≠ i0 → (effs b)[i]? = some e → LocOK P nt ops e (stX (effs b) 0 (fun j => decide (j < i)) st))
    (hlocE : ∀ e, (effs b0)[i0]? = some e → e.o.guard = none ∧ (∀ c, e.o.op ≠ .defer c) ∧ ∀ m0 T S a w, (∀ t ∈ e.rT, look T t = look (stX (effs b0) 0 (fun j => decide (j < i0)) st).T t) → (∀ p ∈ e.rS, S[p]? = (stX (effs b0) 0 (fun j => decide (j < i0)) st).S[p]?) → Rel nt m0 ⟨T, S⟩ a w → e.o.wp P a w (fun a' w' => ∃ p : β × Eff, (effs p.1)[i0]? = some p.2 ∧ Rel nt m0 (p.2.app ⟨T, S⟩) a' w') (fun _ _ _ => False))
    (hc : ∀ b, compat (effs b) (masks ops.toList []) = true) (hlater : ∀ j, i0 < j → j < ops.size → ∃ m : Nat, (masks ops.toList [])[j]? = some m ∧ m.testBit i0 = true) (hdn : down ops.toList 0 = true) (hQ : ∀ b a w, Rel nt m0 (stX (effs b) 0 (fun _ => true) st) a w → Q' .normal a w) :
    ∀ (fuel : Nat) (X : Array Bool) (a : Act) (w : World), X.size = ops.size → (∀ j o, ops.toList[j]? = some o → X.getD j false = true → ∀ e ∈ o.after.toList, Region.binds .any e = true → X.getD e.on false = true) →
      ((List.range ops.size).filter fun j => !X.getD j false).length ≤ fuel → (∃ b, Rel nt m0 (stX (effs b) 0 (fun j => X.getD j false) st) a w) → wpAnyIn (FW ro) 0 P .any ops Q' fuel X a w := by
  have hlen : ∀ b, (effs b).length = ops.size := fun b => by have := congrArg List.length (heff b); simpa using this
  -- all are listed
  have done : ∀ b (X : Array Bool) a w, (∀ j, j < ops.size → X.getD j false = true) → Rel nt m0 (stX (effs b) 0 (fun j => X.getD j false) st) a w → Q' .normal a w := by
    intro b X a w hall hr
    refine hQ b a w ?_
    have hT : ∀ t, look (stX (effs b) 0 (fun j => X.getD j false) st).T t = look (stX (effs b) 0 (fun _ => true) st).T t := fun t =>
      stX_look (fun j e he _ => by rw [Nat.zero_add]; exact hall j (by rw [← hlen b]; exact (List.getElem?_eq_some_iff.1 he).1)) rfl
    have hS : (stX (effs b) 0 (fun j => X.getD j false) st).S = (stX (effs b) 0 (fun _ => true) st).S := List.ext_getElem? fun p =>
      stX_get (fun j e he _ => by rw [Nat.zero_add]; exact hall j (by rw [← hlen b]; exact (List.getElem?_eq_some_iff.1 he).1)) rfl rfl
    have hr' : Rel nt m0 ⟨(stX (effs b) 0 (fun _ => true) st).T, (stX (effs b) 0 (fun j => X.getD j false) st).S⟩ a w := Rel.congr hr fun d v h => (hT d).trans h
    rw [hS] at hr'
    exact hr'
  have ready : ∀ (X : Array Bool), X.size = ops.size → Region.ready .any ops X = [] → ∀ j, j < ops.size → X.getD j false = true := by
    intro X hX hnil j
    induction j using Nat.strongRecOn with
    | _ j ih =>
      intro hj
      cases hx : X.getD j false with
      | true => rfl
      | false =>
        exfalso
        have : j ∈ Region.ready .any ops X := by
          refine List.mem_filter.2 ⟨List.mem_range.2 hj, ?_⟩
          have ho : ops[j]? = some ops[j] := by simp [hj]
          have hx' : X.getD j true = false := by
            have hjX : j < X.size := by omega
            simp only [Array.getD_eq_getD_getElem?, Array.getElem?_eq_getElem hjX, Option.getD_some] at hx ⊢
            exact hx
          simp only [hx', ho, Option.map_some, Option.getD_some, Bool.not_false, Bool.true_and]
          rw [Array.all_eq_true']
          intro e he
          cases hb : Region.binds .any e with
          | false => simp
          | true =>
            have hlt := down_spec _ 0 hdn j ops[j] (by simp [hj]) e (by simpa using he) hb
            have := ih e.on (by omega) (by omega)
            simpa using this
        rw [hnil] at this
        cases this
  intro fuel
  induction fuel with
  | zero =>
    intro X a w hX hdc hf hr
    have hall : ∀ j, j < ops.size → X.getD j false = true := by
      intro j hj
      have hnil := List.eq_nil_of_length_eq_zero (Nat.le_zero.1 hf)
      cases hx : X.getD j false with
      | true => rfl
      | false =>
        have : j ∈ (List.range ops.size).filter fun j => !X.getD j false := List.mem_filter.2 ⟨List.mem_range.2 hj, by simp only [hx, Bool.not_false]⟩
        rw [hnil] at this
        cases this
    obtain ⟨b, hr⟩ := hr
    refine ⟨List.filter_eq_nil_iff.2 fun j hj => ?_, done b X a w hall hr⟩
    have hj' := List.mem_range.1 hj
    have := hall j hj'
    have hjX : j < X.size := by omega
    simp only [Array.getD_eq_getD_getElem?, Array.getElem?_eq_getElem hjX, Option.getD_some] at this ⊢
    simp [this]
  | succ fuel ih =>
    intro X a w hX hdc hf hr
    obtain ⟨b1, hr⟩ := hr
    refine ⟨fun hnil => done b1 X a w (ready X hX hnil) hr, fun i hi => ?_⟩
    obtain ⟨hi1, hi2⟩ := List.mem_filter.1 hi
    have hin := List.mem_range.1 hi1
    have ho : ops[i]? = some ops[i] := by simp [hin]
    have hiX : i < X.size := by omega
    simp only [ho, Option.map_some, Option.getD_some, Bool.and_eq_true] at hi2
    have hXi : X.getD i false = false := by
      have h := hi2.1
      simp only [Array.getD_eq_getD_getElem?, Array.getElem?_eq_getElem hiX, Option.getD_some] at h ⊢
      simpa using h
    have hpre : ∀ e ∈ (ops[i]).after.toList, Region.binds .any e = true → X.getD e.on false = true := by
      intro e he hb
      have := Array.all_eq_true'.1 hi2.2 e (by simpa using he)
      simpa [hb] using this
    have key : ∀ b e, (effs b)[i]? = some e → e.o = ops[i] ∧ (∀ t ∈ e.rT, look (stX (effs b) 0 (fun j => X.getD j false) st).T t = look (stX (effs b) 0 (fun j => decide (j < i)) st).T t) ∧ (∀ p ∈ e.rS, (stX (effs b) 0 (fun j => X.getD j false) st).S[p]? = (stX (effs b) 0 (fun j => decide (j < i)) st).S[p]?) ∧
        (∀ a w, Rel nt m0 (e.app (stX (effs b) 0 (fun j => X.getD j false) st)) a w → Rel nt m0 (stX (effs b) 0 (fun j => (X.setIfInBounds i true).getD j false) st) a w) := by
      intro bb e he
      -- the effect of i
      have heo : e.o = ops[i] := by
        have h1 : ((effs bb).map (·.o))[i]? = some e.o := by simp [he]
        rw [heff bb] at h1
        simpa [hin] using h1.symm
      -- who clashes with i is ordered
      have hmask := masks_spec (fun j => X.getD j false) ops.toList [] (fun j o hj hXj e he hb => hdc j o hj (by simpa using hXj) e he hb) (fun j m h => by simp at h)
      have hcomp : ∀ a b ea eb, a < b → (effs bb)[a]? = some ea → (effs bb)[b]? = some eb → clash ea eb = true → ∃ m : Nat, (masks ops.toList [])[b]? = some m ∧ m.testBit a = true := by
        intro a b ea eb hab hea heb hcl
        have h1 := List.all_eq_true.1 (hc bb) b (List.mem_range.2 (List.getElem?_eq_some_iff.1 heb).1)
        have h2 := List.all_eq_true.1 h1 a (List.mem_range.2 hab)
        simp only [hea, heb] at h2
        cases hm : (masks ops.toList [])[b]? with
        | none => rw [hm] at h2; cases h2
        | some m => rw [hm] at h2; exact ⟨m, rfl, by simpa [hcl] using h2⟩
      have hbefore : ∀ j ej, j < i → (effs bb)[j]? = some ej → clash ej e = true → X.getD j false = true := by
        intro j ej hj hej hcl
        obtain ⟨m, hm1, hm2⟩ := hcomp j i ej e hj hej he hcl
        -- X with i listed is closed too
        have hcl2 := masks_spec (fun k => X.getD k false || decide (k = i)) ops.toList [] (fun k o hk hXk ee hee hb => by
          simp only [List.length_nil, Nat.zero_add, Bool.or_eq_true, decide_eq_true_eq] at hXk ⊢
          rcases hXk with h | h
          · exact .inl (hdc k o hk h ee hee hb)
          · subst h
            have : o = ops[k] := by simpa [hin] using hk.symm
            subst this
            exact .inl (hpre ee hee hb)) (fun j m h => by simp at h) i m hm1 (by simp) j hm2
        simp only [Bool.or_eq_true, decide_eq_true_eq] at hcl2
        rcases hcl2 with h | h
        · exact h
        · omega
      have hafter : ∀ j ej, i < j → (effs bb)[j]? = some ej → clash e ej = true → X.getD j false = false := by
        intro j ej hj hej hcl
        obtain ⟨m, hm1, hm2⟩ := hcomp i j e ej hj he hej hcl
        cases hx : X.getD j false with
        | false => rfl
        | true =>
          have := hmask j m hm1 hx i hm2
          rw [hXi] at this
          cases this
      -- what i reads is as in the text's order
      have hrT : ∀ t ∈ e.rT, look (stX (effs bb) 0 (fun j => X.getD j false) st).T t = look (stX (effs bb) 0 (fun j => decide (j < i)) st).T t := by
        intro t ht
        refine stX_look (fun j ej hej hd => ?_) rfl
        rw [Nat.zero_add]
        rcases Nat.lt_trichotomy j i with h | h | h
        · rw [hbefore j ej h hej ?_]
          · simp [h]
          · cases hcl : clash ej e with
            | true => rfl
            | false => exact absurd ht ((clash_spec hcl).1 t hd)
        · subst h
          rw [hXi]; simp
        · rw [hafter j ej h hej ?_]
          · simp; omega
          · cases hcl : clash e ej with
            | true => rfl
            | false => exact absurd ht ((clash_spec hcl).2.1 t hd)
      have hrS : ∀ p ∈ e.rS, (stX (effs bb) 0 (fun j => X.getD j false) st).S[p]? = (stX (effs bb) 0 (fun j => decide (j < i)) st).S[p]? := by
        intro p hp
        refine stX_get (fun j ej hej hd => ?_) rfl rfl
        rw [Nat.zero_add]
        obtain ⟨q, hq, rfl⟩ := hd
        rcases Nat.lt_trichotomy j i with h | h | h
        · rw [hbefore j ej h hej ?_]
          · simp [h]
          · cases hcl : clash ej e with
            | true => rfl
            | false => exact absurd hp ((clash_spec hcl).2.2.2.1 q hq)
        · subst h
          rw [hXi]; simp
        · rw [hafter j ej h hej ?_]
          · simp; omega
          · cases hcl : clash e ej with
            | true => rfl
            | false => exact absurd hp ((clash_spec hcl).2.2.2.2.1 q hq)
      -- the state with i listed
      have hX' : ∀ k, (X.setIfInBounds i true).getD k false = (X.getD k false || decide (k = i)) := by
        intro k
        simp only [Array.getD_eq_getD_getElem?, Array.getElem?_setIfInBounds]
        by_cases hk : i = k
        · subst hk; simp [hiX]
        · simp [hk, Ne.symm hk]
      have hnew : ∀ a w, Rel nt m0 (e.app (stX (effs bb) 0 (fun j => X.getD j false) st)) a w → Rel nt m0 (stX (effs bb) 0 (fun j => (X.setIfInBounds i true).getD j false) st) a w := by
        intro a w hr'
        have hT : ∀ t, look (stX (effs bb) 0 (fun j => (X.setIfInBounds i true).getD j false) st).T t = look (e.app (stX (effs bb) 0 (fun j => X.getD j false) st)).T t := by
          intro t
          by_cases hd : e.o.dst = some t
          · rw [stX_last (i := i) (e := e) (t := t) he (by rw [Nat.zero_add, hX']; simp) hd ?_]
            · simp [Eff.app, hd, putD, look_cons]
            · intro j ej hj hej hXj hdj
              rw [Nat.zero_add, hX'] at hXj
              have hXj' : X.getD j false = true := by
                simp only [Bool.or_eq_true, decide_eq_true_eq] at hXj
                rcases hXj with h | h
                · exact h
                · omega
              have := hafter j ej hj hej (by
                cases hcl : clash e ej with
                | true => rfl
                | false => exact absurd hdj ((clash_spec hcl).2.2.1 t hd))
              rw [hXj'] at this
              cases this
          · have ap : look (e.app (stX (effs bb) 0 (fun j => X.getD j false) st)).T t = look (stX (effs bb) 0 (fun j => X.getD j false) st).T t := by
              simp only [Eff.app]
              cases hdd : e.o.dst with
              | none => rfl
              | some d => rw [putD, look_cons, if_neg]; exact fun h => hd (by rw [hdd, h])
            rw [ap]
            refine stX_look (fun j ej hej hdj => ?_) rfl
            rw [Nat.zero_add, hX']
            have : j ≠ i := by
              rintro rfl
              rw [he] at hej
              injection hej with hej
              subst hej
              exact hd hdj
            simp [this]
        have hS : (stX (effs bb) 0 (fun j => (X.setIfInBounds i true).getD j false) st).S = (e.app (stX (effs bb) 0 (fun j => X.getD j false) st)).S := by
          refine List.ext_getElem? fun p => ?_
          by_cases hd : ∃ q ∈ e.wS, q.1 = p
          · rw [stX_lastS (i := i) (e := e) (p := p) he (by rw [Nat.zero_add, hX']; simp) hd ?_ (stX (effs bb) 0 (fun j => X.getD j false) st).S (stX_len ..)]
            · rfl
            · intro j ej hj hej hXj hdj
              rw [Nat.zero_add, hX'] at hXj
              have hXj' : X.getD j false = true := by
                simp only [Bool.or_eq_true, decide_eq_true_eq] at hXj
                rcases hXj with h | h
                · exact h
                · omega
              obtain ⟨q, hq, hqp⟩ := hd
              obtain ⟨q', hq', hqp'⟩ := hdj
              have := hafter j ej hj hej (by
                cases hcl : clash e ej with
                | true => rfl
                | false => exact absurd (hqp.trans hqp'.symm) ((clash_spec hcl).2.2.2.2.2 q hq q' hq'))
              rw [hXj'] at this
              cases this
          · have ap : (e.app (stX (effs bb) 0 (fun j => X.getD j false) st)).S[p]? = (stX (effs bb) 0 (fun j => X.getD j false) st).S[p]? := setAll_ne (fun q hq h => hd ⟨q, hq, h⟩) _
            rw [ap]
            refine stX_get (fun j ej hej hdj => ?_) rfl rfl
            rw [Nat.zero_add, hX']
            have : j ≠ i := by
              rintro rfl
              rw [he] at hej
              injection hej with hej
              subst hej
              exact hd hdj
            simp [this]
        have := Rel.congr hr' (T' := (stX (effs bb) 0 (fun j => (X.setIfInBounds i true).getD j false) st).T) fun d v h => (hT d).symm.trans h
        rw [show (⟨(stX (effs bb) 0 (fun j => (X.setIfInBounds i true).getD j false) st).T, setAll (stX (effs bb) 0 (fun j => X.getD j false) st).S e.wS⟩ : St) = stX (effs bb) 0 (fun j => (X.setIfInBounds i true).getD j false) st from by
          rw [show setAll (stX (effs bb) 0 (fun j => X.getD j false) st).S e.wS = (e.app (stX (effs bb) 0 (fun j => X.getD j false) st)).S from rfl, ← hS]] at this
        exact this
      exact ⟨heo, hrT, hrS, hnew⟩
    have hX' : ∀ k, (X.setIfInBounds i true).getD k false = (X.getD k false || decide (k = i)) := by
      intro k
      simp only [Array.getD_eq_getD_getElem?, Array.getElem?_setIfInBounds]
      by_cases hk : i = k
      · subst hk; simp [hiX]
      · simp [hk, Ne.symm hk]
    have next : ∀ b e, (effs b)[i]? = some e → ∀ a w, Rel nt m0 (e.app (stX (effs b) 0 (fun j => X.getD j false) st)) a w → wpAnyIn (FW ro) 0 P .any ops Q' fuel (X.setIfInBounds i true) a w := by
      intro b e he a w hr'
      refine ih _ a w (by simp [hX]) ?_ ?_ ⟨b, (key b e he).2.2.2 a w hr'⟩
      · intro j o hj hXj ee hee hb
        rw [hX'] at hXj ⊢
        simp only [Bool.or_eq_true, decide_eq_true_eq] at hXj ⊢
        rcases hXj with h | h
        · exact .inl (hdc j o hj h ee hee hb)
        · subst h
          have : o = ops[j] := by simpa [hin] using hj.symm
          subst this
          exact .inl (hpre ee hee hb)
      · have e1 : (List.range ops.size).filter (fun j => !(X.setIfInBounds i true).getD j false) = ((List.range ops.size).filter fun j => !X.getD j false).filter fun j => !decide (j = i) := by
          rw [List.filter_filter]
          congr 1
          funext j
          rw [hX']
          cases X.getD j false <;> simp
        have hmem : i ∈ (List.range ops.size).filter fun j => !X.getD j false := List.mem_filter.2 ⟨List.mem_range.2 hin, by simp only [hXi, Bool.not_false]⟩
        have := (List.length_filter_lt_length_iff_exists (l := (List.range ops.size).filter fun j => !X.getD j false) (p := fun j => !decide (j = i))).2 ⟨i, hmem, by simp⟩
        rw [e1]
        omega
    obtain ⟨e, he⟩ : ∃ e, (effs b1)[i]? = some e := ⟨(effs b1)[i]'(by rw [hlen]; exact hin), by simp [hlen, hin]⟩
    obtain ⟨heo, hrT, hrS, _⟩ := key b1 e he
    by_cases hi0 : i = i0
    · subst hi0
      have hmask := masks_spec (fun j => X.getD j false) ops.toList [] (fun j o hj hXj e he hb => hdc j o hj (by simpa using hXj) e he hb) (fun j m h => by simp at h)
      have hXl : ∀ j, X.getD j false = true → j < ops.size → j < i := by
        intro j hj hjs
        rcases Nat.lt_trichotomy j i with h | h | h
        · exact h
        · subst h; rw [hXi] at hj; cases hj
        · obtain ⟨m, hm1, hm2⟩ := hlater j h hjs
          have := hmask j m hm1 hj i hm2
          rw [hXi] at this
          cases this
      have hst : ∀ b, stX (effs b) 0 (fun j => X.getD j false) st = stX (effs b0) 0 (fun j => X.getD j false) st := by
        intro b
        refine stX_agree (by rw [hlen, hlen]) fun j hj => ?_
        rw [Nat.zero_add] at hj
        by_cases hjs : j < ops.size
        · exact hpre b b0 j (hXl j hj hjs)
        · rw [List.getElem?_eq_none (by rw [hlen]; omega), List.getElem?_eq_none (by rw [hlen]; omega)]
      obtain ⟨e0, he0⟩ : ∃ e, (effs b0)[i]? = some e := ⟨(effs b0)[i]'(by rw [hlen]; exact hin), by simp [hlen, hin]⟩
      obtain ⟨heo0, hrT0, hrS0, _⟩ := key b0 e0 he0
      obtain ⟨hg, hnd, hE⟩ := hlocE e0 he0
      rw [hst b1] at hr
      have hl := hE m0 _ _ a w hrT0 hrS0 hr
      rw [heo0] at hl hg hnd
      unfold wpOpIn
      simp only [ho]
      rw [if_pos (by simp [Region.wanted, hg])]
      refine wpIn_fwE (C := fun p : β × Eff => (effs p.1)[i]? = some p.2) (sE := fun p => p.2.app (stX (effs b0) 0 (fun j => X.getD j false) st)) hnd hl fun a' w' hq => ?_
      obtain ⟨⟨b, e'⟩, he', hr'⟩ := hq
      exact next b e' he' a' w' (by rw [hst b]; exact hr')
    · have hl := hloc b1 i e hi0 he m0 _ _ a w hrT hrS hr
      unfold wpOpIn
      simp only [ho]
      rw [heo] at hl
      by_cases hw : Region.wanted ops[i] (yielded ops a.tmps) = true
      · rw [if_pos hw] at hl ⊢
        exact wpIn_fw hl (next b1 e he)
      · rw [if_neg hw] at hl ⊢
        exact ⟨fun _ _ => trivial, next b1 e he _ _ hl⟩
/-- Is each operation behind i ordered behind it? -/
def laterB (i : Nat) (ms : List Nat) : Bool := (List.range ms.length).all fun j => !(decide (i < j)) || (ms.getD j 0).testBit i
theorem AWP.region_anyE {β : Type} {Q : Exit → St → Prop} {id : Nat} {l : List Oper} {st : St} {effs : β → List Eff} (b0 : β) (i0 : Nat) (hm : P.follows .mixedOrders = true) (heff : ∀ b, (effs b).map (·.o) = l) (hpre : ∀ b b' i, i < i0 → (effs b)[i]? = (effs b')[i]?)
    (hloc : ∀ b i e, i ≠ i0 → (effs b)[i]? = some e → LocOK P nt l.toArray e (stX (effs b) 0 (fun j => decide (j < i)) st))
    (hlocE : ∀ e, (effs b0)[i0]? = some e → e.o.guard = none ∧ (∀ c, e.o.op ≠ .defer c) ∧ ∀ m0 T S a w, (∀ t ∈ e.rT, look T t = look (stX (effs b0) 0 (fun j => decide (j < i0)) st).T t) → (∀ p ∈ e.rS, S[p]? = (stX (effs b0) 0 (fun j => decide (j < i0)) st).S[p]?) → Rel nt m0 ⟨T, S⟩ a w → e.o.wp P a w (fun a' w' => ∃ p : β × Eff, (effs p.1)[i0]? = some p.2 ∧ Rel nt m0 (p.2.app ⟨T, S⟩) a' w') (fun _ _ _ => False))
    (hc : ∀ b, compat (effs b) (masks l []) = true) (hlater : ∀ j, i0 < j → j < l.length → ∃ m : Nat, (masks l [])[j]? = some m ∧ m.testBit i0 = true) (hdn : down l 0 = true) (hQ : ∀ b, Q .normal (stX (effs b) 0 (fun _ => true) st)) : AWP ro P nt (.region id l.toArray true) Q st := by
  intro m0 a w hrel
  refine wpIn_region_any hm (any_orderE (m0 := m0) (st := st) (effs := effs) (b0 := b0) (i0 := i0) (by simpa using heff) hpre hloc hlocE (by simpa using hc) (by simpa using hlater) (by simpa using hdn) (fun b a w h => ⟨_, h, hQ b⟩) _ _ a _ (by simp) ?_ ?_ ⟨b0, ?_⟩)
  · intro j o hj hX
    have : j < l.length := (List.getElem?_eq_some_iff.1 hj).1
    simp [this] at hX
  · exact Nat.le_trans (List.length_filter_le _ _) (by simp)
  · have : (fun j => (Array.replicate l.toArray.size false).getD j false) = fun _ => false := by
      funext j
      simp only [Array.getD_eq_getD_getElem?, Array.getElem?_replicate]
      split <;> rfl
    rw [this, stX_none]
    exact hrel.draw _
end
/-! ### the run of such a region -/
section
variable {P : Program} {nt : Nat} {ops : Array Oper}
theorem stX_cons (e0 : Eff) (effs : List Eff) (st : St) (i : Nat) : stX (e0 :: effs) 0 (fun j => decide (j < i + 1)) st = stX effs 0 (fun j => decide (j < i)) (e0.app st) := by
  show stX effs (0 + 1) (fun j => decide (j < i + 1)) (match decide (0 < i + 1) with | true => e0.app st | false => st) = _
  rw [stX_shift, decide_eq_true (Nat.succ_pos i)]
  simp
theorem stX_all (e0 : Eff) (effs : List Eff) (st : St) : stX (e0 :: effs) 0 (fun _ => true) st = stX effs 0 (fun _ => true) (e0.app st) := by
  show stX effs (0 + 1) (fun _ => true) (e0.app st) = _
  rw [stX_shift]
theorem stX_zero (effs : List Eff) (st : St) : stX effs 0 (fun j => decide (j < 0)) st = st := by
  have : (fun j : Nat => decide (j < 0)) = fun _ => false := by funext j; simp
  rw [this, stX_none]
def CallOK (P : Program) (nt : Nat) {β : Type} (effs : β → List Eff) (i0 : Nat) (e : Eff) (st : St) : Prop :=
  e.o.guard = none ∧ (∀ c, e.o.op ≠ .defer c) ∧ ∀ m0 T S a w, (∀ t ∈ e.rT, look T t = look st.T t) → (∀ p ∈ e.rS, S[p]? = st.S[p]?) → Rel nt m0 ⟨T, S⟩ a w → e.o.wp P a w (fun a' w' => ∃ p : β × Eff, (effs p.1)[i0]? = some p.2 ∧ Rel nt m0 (p.2.app ⟨T, S⟩) a' w') (fun _ _ _ => False)
theorem laterB_spec {i : Nat} {ms : List Nat} (h : laterB i ms = true) : ∀ j, i < j → j < ms.length → ∃ m : Nat, ms[j]? = some m ∧ m.testBit i = true := by
  intro j hij hj
  have := List.all_eq_true.1 h j (List.mem_range.2 hj)
  refine ⟨ms[j], by simp [hj], ?_⟩
  simpa [hij, List.getD_eq_getElem?_getD, List.getElem?_eq_getElem hj] using this
/-- A run in which one call has one of many results. -/
def RGoE (P : Program) (nt : Nat) (ops : Array Oper) (l : List Oper) (Q : Exit → St → Prop) (rest : List Oper) (acc : List Eff) (st : St) : Prop :=
  ∃ (β : Type) (b0 : β) (i0 : Nat) (effs : β → List Eff), (∀ b, (effs b).map (·.o) = rest) ∧ (∀ b b' i, i < i0 → (effs b)[i]? = (effs b')[i]?) ∧
    (∀ b i e, i ≠ i0 → (effs b)[i]? = some e → LocOK P nt ops e (stX (effs b) 0 (fun j => decide (j < i)) st)) ∧
    (∀ e, (effs b0)[i0]? = some e → CallOK P nt effs i0 e (stX (effs b0) 0 (fun j => decide (j < i0)) st)) ∧
    (∀ b, compat (acc ++ effs b) (masks l []) = true) ∧ laterB (acc.length + i0) (masks l []) = true ∧ ∀ b, Q .normal (stX (effs b) 0 (fun _ => true) st)
theorem AWP.region_runE {Q : Exit → St → Prop} {id : Nat} {l : List Oper} {st : St} (hm : P.follows .mixedOrders = true) (hdn : down l 0 = true) (h : RGoE P nt l.toArray l Q l [] st) : AWP ro P nt (.region id l.toArray true) Q st := by
  obtain ⟨β, b0, i0, effs, h1, h2, h3, h4, h5, h6, h7⟩ := h
  rw [List.length_nil, Nat.zero_add] at h6
  exact .region_anyE b0 i0 hm h1 h2 h3 h4 (by simpa using h5) (fun j hj hl => laterB_spec h6 j hj (by rw [masks_len]; exact hl)) hdn h7
section
variable {Q : Exit → St → Prop} {l rest : List Oper} {acc : List Eff} {st : St} {T : List (Nat × AV)} {S : List Slot} {xs : List (Operand × AV)} {rS wS : List (Nat × Slot)} {v : AV} {op : Op} {ty : TypeId} {pos : String} {after : Array Edge} {dst : Option Tmp} {f : FuncId} {ats : Array TypeId}
theorem RGoE.step_ {o : Oper} {e : Eff} {st' : St} (h : Run P nt ops [o] st [e] st') (k : RGoE P nt ops l Q rest (acc ++ [e]) st') : RGoE P nt ops l Q (o :: rest) acc st := by
  obtain ⟨h1, h2, h3⟩ := h.spec
  obtain ⟨β, b0, i0, effs, k1, k2, k3, k4, k5, k6, k7⟩ := k
  have hst : st' = e.app st := by rw [h1, stX_all]; rfl
  subst hst
  simp only [List.map_cons, List.map_nil, List.cons.injEq, and_true] at h2
  refine ⟨β, b0, i0 + 1, fun b => e :: effs b, fun b => by simp [k1 b, h2], fun b b' i hi => ?_, fun b i e' hi he => ?_, fun e' he => ?_, fun b => by simpa using k5 b, by rw [show acc.length + (i0 + 1) = (acc ++ [e]).length + i0 by simp; omega]; exact k6, fun b => by rw [stX_all]; exact k7 b⟩
  · cases i with
    | zero => rfl
    | succ i => simpa using k2 b b' i (by omega)
  · cases i with
    | zero =>
      simp at he
      subst he
      rw [stX_zero]
      have := h3 0 e rfl
      rwa [stX_zero] at this
    | succ i =>
      rw [stX_cons]
      exact k3 b i e' (by omega) (by simpa using he)
  · rw [stX_cons]
    obtain ⟨a1, a2, a3⟩ := k4 e' (by simpa using he)
    exact ⟨a1, a2, fun m0 T S a w h1 h2 h3 => by simpa using a3 m0 T S a w h1 h2 h3⟩
theorem RGoE.go (k : RGoE P nt ops l Q rest (acc ++ [⟨⟨dst, op, ty, pos, after, none⟩, tmpsOf xs, rS.map (·.1), v, []⟩]) ⟨putD T dst v, S⟩) (h : Stp none P ⟨dst, op, ty, pos, after, none⟩ T S xs rS v [] := by exact Stp.f0) (hd : dstOk dst nt = true := by rfl) : RGoE P nt ops l Q (⟨dst, op, ty, pos, after, none⟩ :: rest) acc ⟨T, S⟩ := RGoE.step_ (Run.p h hd .nil) k
end
end
end Go.Proofs.Ytbfcbfgpbbkecaa

namespace Go.Proofs.Ytbfcbfgpbbkecaa
set_option linter.unusedVariables false
variable {ro : Option Nat}
section
variable {P : Program} {nt : Nat} {ops : Array Oper} {Q : Exit → St → Prop} {l rest : List Oper} {acc : List Eff} {T : List (Nat × AV)} {S : List Slot} {f : FuncId} {x0 x1 x2 x3 : Operand} {v0 v1 v2 v3 r v : AV} {xs : List (Operand × AV)} {dst : Option Tmp} {ats : Array TypeId} {ty : TypeId} {pos : String} {after : Array Edge} {p1 p2 : Nat} {z1 z2 : Slot} {y1 y2 : Nat → Slot}
theorem AOps.eQ2 (h : Spec P f [v0, v1] [z1, z2] fun r' S' => ∃ b : Nat, r' = r ∧ S' = [y1 b, y2 b]) [hf : Frz r v] (k : ∀ b : Nat, AOps ro P nt ops Q rest ⟨putD T dst v, setAll S [(p1, y1 b), (p2, y2 b)]⟩)
    (a1 : At S p1 z1 := by exact At.f) (a2 : At S p2 z2 := by exact At.f) (hnd : nodupB [p1, p2] = true := by rfl) (h0 : Rd none T x0 v0 := by rfl) (h1 : Rd none T x1 v1 := by rfl) (ht : noTup [(x0, v0), (x1, v1)] = true := by rfl) (hd : dstOk dst nt = true := by rfl) :
    AOps ro P nt ops Q (⟨dst, .call ⟨.value (.func f), #[x0, x1], ats⟩, ty, pos, after, none⟩ :: rest) ⟨T, S⟩ :=
  AOps.callE (xs := [(x0, v0), (x1, v1)]) (C := fun _ => True) (rr := fun _ => r) (vv := fun _ => v) (So := fun b => [y1 b, y2 b]) (nw := fun _ => []) (gs := []) (rS := [(p1, z1), (p2, z2)]) (wE := fun b => [(p1, y1 b), (p2, y2 b)])
    (h.mono fun r' S' ⟨b, e1, e2⟩ => ⟨b, trivial, e1, e2⟩) (fun _ => .fz) (fun _ => rfl) (fun b => .cons a1 (.cons a2 .nil)) (nodupB_spec hnd) rfl (.cons a1 (.cons a2 .nil)) (.cons h0 (.cons h1 .nil)) ht hd (fun b _ => k b)
/-- A call in a drawn region that hands two objects back, one of them at a new stamp. -/
theorem RGoE.callQ {C : Nat → Prop} (b0 : Nat) (h : Spec P f (xs.map (·.2)) [z1, z2] fun r' S' => ∃ b : Nat, r' = r ∧ S' = [y1 b, y2 b]) [hf : Frz r v] (hx : Evs T xs) (ht : noTup xs = true) (hd : dstOk dst nt = true) (hl : laterB acc.length (masks l []) = true) (a1 : At S p1 z1) (a2 : At S p2 z2) (hnd : nodupB [p1, p2] = true)
    (k : ∀ b, RGo P nt ops l Q rest (acc ++ [⟨⟨dst, .call ⟨.value (.func f), (xs.map (·.1)).toArray, ats⟩, ty, pos, after, none⟩, tmpsOf xs, [p1, p2], v, [(p1, y1 b), (p2, y2 b)]⟩]) ⟨putD T dst v, setAll S [(p1, y1 b), (p2, y2 b)]⟩) : RGoE P nt ops l Q (⟨dst, .call ⟨.value (.func f), (xs.map (·.1)).toArray, ats⟩, ty, pos, after, none⟩ :: rest) acc ⟨T, S⟩ := by
  have hk : ∀ b : Nat, ∃ effs st', Run P nt ops rest ⟨putD T dst v, setAll S [(p1, y1 b), (p2, y2 b)]⟩ effs st' ∧ compat ((acc ++ [⟨⟨dst, .call ⟨.value (.func f), (xs.map (·.1)).toArray, ats⟩, ty, pos, after, none⟩, tmpsOf xs, [p1, p2], v, [(p1, y1 b), (p2, y2 b)]⟩]) ++ effs) (masks l []) = true ∧ Q .normal st' := fun b => k b
  refine ⟨Nat, b0, 0, fun b => ⟨⟨dst, .call ⟨.value (.func f), (xs.map (·.1)).toArray, ats⟩, ty, pos, after, none⟩, tmpsOf xs, [p1, p2], v, [(p1, y1 b), (p2, y2 b)]⟩ :: (hk b).choose, fun b => ?_, fun b b' i hi => absurd hi (Nat.not_lt_zero i), fun b i e hi he => ?_, fun e he => ?_, fun b => ?_, hl, fun b => ?_⟩
  · obtain ⟨st', h1, h2, h3⟩ := (hk b).choose_spec
    rw [List.map_cons, h1.spec.2.1]
  · obtain ⟨st', h1, h2, h3⟩ := (hk b).choose_spec
    cases i with
    | zero => exact absurd rfl hi
    | succ i =>
      rw [stX_cons]
      exact h1.spec.2.2 i e (by simpa using he)
  · simp at he
    subst he
    refine ⟨rfl, by simp, fun m0 T' S' a w hT hS hr => ?_⟩
    rw [stX_zero] at hT hS
    obtain ⟨m, N, Z, rfl, h2, h3, h4⟩ := hr
    have h2' : Z.map (·.1) = S' := h2
    have h4' : TRel m0 m nt T' a := h4
    have hv : VTs m (xs.map (·.2)) (((xs.map (·.1)).toArray).map a.eval).toList [] := by
      have := vts_of (noTup_spec ht) fun q hq => h4'.ev (evs_local (st := ⟨T, S⟩) hx hT q hq)
      simpa [Function.comp_def] using this
    have hS0 : ∀ q ∈ [(p1, z1), (p2, z2)], S'[q.1]? = some q.2 := by
      have hg : Gets S [(p1, z1), (p2, z2)] := .cons a1 (.cons a2 .nil)
      intro q hq
      rw [hS q.1 (by
        simp only [List.mem_cons, List.not_mem_nil, or_false] at hq ⊢
        rcases hq with rfl | rfl
        · exact .inl rfl
        · exact .inr rfl)]
      exact hg.all q hq
    have hc := callG_runE (dst := dst) (S := S') (C := fun _ : Nat => True) (rr := fun _ => r) (vv := fun _ => v) (rS := [(p1, z1), (p2, z2)]) (So := fun b => [y1 b, y2 b]) (nw := fun _ => []) (wE := fun b => [(p1, y1 b), (p2, y2 b)]) (gs := []) (h.mono fun r' S' ⟨b, e1, e2⟩ => ⟨b, trivial, e1, e2⟩) (fun b => .fz) (fun _ => rfl) rfl (fun _ => rfl) (fun _ => rfl) (nodupB_spec hnd) hS0 (dstOk_lt hd) h2' h3 h4' hv
    have hw := wp_call (ty := ty) (pos := pos) (after := after) (g := none) (dst := dst) (ats := ats) (K := fun a' w' => ∃ b : Nat, True ∧ Rel nt m0 ⟨putD T' dst v, setAll S' [(p1, y1 b), (p2, y2 b)]⟩ a' w') (fun _ => rfl) h.fn hc
    refine Oper.wp_mono ?_ hw
    rintro a' w' ⟨b, hb, hrel⟩
    exact ⟨(b, ⟨⟨dst, .call ⟨.value (.func f), (xs.map (·.1)).toArray, ats⟩, ty, pos, after, none⟩, tmpsOf xs, [p1, p2], v, [(p1, y1 b), (p2, y2 b)]⟩), rfl, hrel⟩
  · obtain ⟨st', h1, h2, h3⟩ := (hk b).choose_spec
    simpa using h2
  · obtain ⟨st', h1, h2, h3⟩ := (hk b).choose_spec
    rw [stX_all]
    have := h1.spec.1
    rw [this] at h3
    exact h3
theorem RGoE.eQ2 (h : Spec P f [v0, v1] [z1, z2] fun r' S' => ∃ b : Nat, r' = r ∧ S' = [y1 b, y2 b]) [hf : Frz r v] (k : ∀ b : Nat, RGo P nt ops l Q rest (acc ++ [⟨⟨dst, .call ⟨.value (.func f), #[x0, x1], ats⟩, ty, pos, after, none⟩, tmpsOf [(x0, v0), (x1, v1)], [p1, p2], v, [(p1, y1 b), (p2, y2 b)]⟩]) ⟨putD T dst v, setAll S [(p1, y1 b), (p2, y2 b)]⟩)
    (hl : laterB acc.length (masks l []) = true := by kernel_rfl) (a1 : At S p1 z1 := by exact At.f) (a2 : At S p2 z2 := by exact At.f) (hnd : nodupB [p1, p2] = true := by rfl) (h0 : Rd none T x0 v0 := by rfl) (h1 : Rd none T x1 v1 := by rfl) (ht : noTup [(x0, v0), (x1, v1)] = true := by rfl) (hd : dstOk dst nt = true := by rfl) :
    RGoE P nt ops l Q (⟨dst, .call ⟨.value (.func f), #[x0, x1], ats⟩, ty, pos, after, none⟩ :: rest) acc ⟨T, S⟩ :=
  RGoE.callQ (xs := [(x0, v0), (x1, v1)]) (C := fun _ => True) 0 h (.cons h0 (.cons h1 .nil)) ht hd hl a1 a2 hnd k
theorem RGoE.eQ3 (h : Spec P f [v0, v1, v2] [z1, z2] fun r' S' => ∃ b : Nat, r' = r ∧ S' = [y1 b, y2 b]) [hf : Frz r v] (k : ∀ b : Nat, RGo P nt ops l Q rest (acc ++ [⟨⟨dst, .call ⟨.value (.func f), #[x0, x1, x2], ats⟩, ty, pos, after, none⟩, tmpsOf [(x0, v0), (x1, v1), (x2, v2)], [p1, p2], v, [(p1, y1 b), (p2, y2 b)]⟩]) ⟨putD T dst v, setAll S [(p1, y1 b), (p2, y2 b)]⟩)
    (hl : laterB acc.length (masks l []) = true := by kernel_rfl) (a1 : At S p1 z1 := by exact At.f) (a2 : At S p2 z2 := by exact At.f) (hnd : nodupB [p1, p2] = true := by rfl) (h0 : Rd none T x0 v0 := by rfl) (h1 : Rd none T x1 v1 := by rfl) (h2 : Rd none T x2 v2 := by rfl) (ht : noTup [(x0, v0), (x1, v1), (x2, v2)] = true := by rfl) (hd : dstOk dst nt = true := by rfl) :
    RGoE P nt ops l Q (⟨dst, .call ⟨.value (.func f), #[x0, x1, x2], ats⟩, ty, pos, after, none⟩ :: rest) acc ⟨T, S⟩ :=
  RGoE.callQ (xs := [(x0, v0), (x1, v1), (x2, v2)]) (C := fun _ => True) 0 h (.cons h0 (.cons h1 (.cons h2 .nil))) ht hd hl a1 a2 hnd k
end
end Go.Proofs.Ytbfcbfgpbbkecaa

namespace Go.Proofs.Ytbfcbfgpbbkecaa
set_option linter.unusedVariables false
variable {ro : Option Nat}
section
variable {P : Program} {nt : Nat} {ops : Array Oper} {Q : Exit → St → Prop} {rest : List Oper} {T : List (Nat × AV)} {S : List Slot} {ty ty2 t t2 te t' : TypeId} {pos pos2 : String} {after after2 : Array Edge} {dst : Option Tmp} {ats : Array TypeId} {g : Option (Nat × Bool)} {x y : Operand}
theorem wpIn_val {o : Oper} {a : Act} {w w' : World} {u : Value} {K : Act → World → Prop} {Q : Exit → Act → World → Prop} (hd : ∀ c, o.op ≠ .defer c) (hr : (execOp a.eval o).run P w = .ok (.value u) w') (hK : K (a.put o.dst u) w') : o.wpIn (FW ro) 0 P a w K Q := by
  refine ⟨fun _ _ => trivial, ?_⟩
  rw [show o.semAt (FW ro).round a.eval = execOp a.eval o from Oper.semAt_eq _ _ _ hd, hr]
  exact hK
/-- The places and the bytes of a literal. -/
def litY (ls : List UInt8) : List (Nat × Operand × AV) := ls.zipIdx.map fun q => (q.2, .const (.int .u8 ((q.1.toNat : Nat) : Int)), yA q.1)
theorem AOps.byteLit {d1 d2 n : Nat} {ar : Array (Nat × Operand)} {zl : List Value} {ag : Bool} (ls : List UInt8) (k : AOps ro P nt ops Q rest ⟨putD (putD T (some d1) .dead) (some d2) (.lst false te 1 (ls.map yA)), S⟩) [hel : TEl P t te] [hze : TZe P te zl] [hsz : TSize P te 1] [TAg P te ag]
    (hs : P.underlying t = some (.slice te)) (he : P.underlying te = some (.int .u8)) (har : ar = ((litY ls).map fun q => (q.1, q.2.1)).toArray) (hzs : zl.length = 1) (hag : ag = true ∨ zl.length = 1) (hn : n ≤ 16777216) (h0 : 0 < n) (hln : n = ls.length)
    (hf : fillE 1 (List.replicate n (zAV zl ag)) ((litY ls).map fun q => (q.1, q.2.2)) = some (ls.map yA)) (hd1 : dstOk (some d1) nt = true) (hd2 : dstOk (some d2) nt = true) :
    AOps ro P nt ops Q (⟨some d1, .buildSlice t n ar, ty, pos, after, none⟩ :: ⟨some d2, .convert t t (.tmp d1), ty2, pos2, after2, none⟩ :: rest) ⟨T, S⟩ := by
  subst har
  intro m0 a w hr
  obtain ⟨m, N, Z, rfl, h2, h3, h4⟩ := hr
  obtain ⟨i, zv, hi, hzv, hzl, ho⟩ := tZ_spec hze.h
  obtain hisz : i.size = 1 := by simpa [tSz, hi] using hsz.h
  have hzvs : zv.cells.size = i.size := by rw [hisz, ← hzs, ← hzl]; simp
  have hzc := zAV_vc m ho hag
  have hzw : (zAV zl ag).width = 1 := by rw [← VC.len _ hzc, hzs]
  have hcl : ((Array.range (n * i.size)).map (zv.cells[· % zv.cells.size]!)).toList = (List.replicate n zl).flatten := by
    rw [← hzvs, made_flat, hzl]
  obtain ⟨cells', c1, c2, c3, c4⟩ := fillE_spec m a.eval (sz := 1) (litY ls) (List.replicate n (zAV zl ag)) (ls.map yA) ((Array.range (n * i.size)).map (zv.cells[· % zv.cells.size]!)) (fun e he => by rw [List.eq_of_mem_replicate he, hzw]) (by rw [hcl]; exact vcs_replicate m hzc n) (fun q hq => by
    obtain ⟨q0, _, rfl⟩ := List.mem_map.1 hq
    exact vv_prim _) hf
  have hcs : cells'.size = n := by have := VCs.len _ c2; rw [widths_of c4, List.length_map, ← hln] at this; simpa using this
  have hrun := run_buildSlice (P := P) m.w t te n (((litY ls).map fun q => (q.1, a.eval q.2.1)).toArray) cells' i zv (tElem_spec hel.h) hi hzv (by rw [hisz, Nat.mul_one]; omega) (by rw [hisz, Nat.mul_one]; omega) (by rw [hisz]; simpa [hisz] using c1)
  refine wpListIn_plain rfl fun K hK => wpIn_val (w' := m.w.alloc (.cells cells' te)) (u := .slice (some ⟨m.w.heap.size, 0, none⟩) n n) (by simp) ?_ ?_
  · simp only [execOp, List.map_toArray, List.map_map, Sem.run_bind]
    rw [show ((fun x : Nat × Operand => (x.1, a.eval x.2)) ∘ fun q : Nat × Operand × AV => (q.1, q.2.1)) = fun q => (q.1, a.eval q.2.1) from rfl, hrun]
    simp [Sem.run_pure, Result.andThen_ok]
  · refine hK _ _ ?_
    have hev : (a.put (some d1) (.slice (some ⟨m.w.heap.size, 0, none⟩) n n)).eval (.tmp d1) = .slice (some ⟨m.w.heap.size, 0, none⟩) n n := by
      have hlt : d1 < nt := dstOk_lt hd1 d1 rfl
      have h5 : a.tmps.size = nt := h4.1
      simp [Act.put, Act.eval, h5, hlt]
    refine wpListIn_plain rfl fun K2 hK2 => wpIn_val (w' := m.w.alloc (.cells cells' te (cells'.size, cells'.size + 1))) (u := .slice (some ⟨m.w.heap.size, 0, none⟩) n n) (by simp) ?_ ?_
    · simp only [execOp, hev, Sem.run_bind, Lib.run_convert_bytes_const m.w t te cells' n n hs he, Result.andThen_ok, Sem.run_pure]
    · refine hK2 _ _ ?_
      obtain ⟨G, hle⟩ := h3.newFrz (.cells cells' te (cells'.size, cells'.size + 1)) _ rfl
      refine k m0 _ _ ⟨_, N, Z, rfl, h2, G, ((h4.mono hle).put (dstOk_lt hd1) ?_).put (dstOk_lt hd2) ?_⟩
      · exact rfl
      · refine ⟨rfl, some ⟨m.w.heap.size, 0, none⟩, n, by rw [List.length_map, ← hln], by rw [List.length_map, ← hln]; exact Nat.le_refl _, c4, fun _ => ⟨m.w.heap.size, 0, cells', te, (cells'.size, cells'.size + 1), rfl, .inr rfl, ?_, ?_⟩⟩
        · show (m.w.heap.push _)[m.w.heap.size]? = _
          simp
        · rw [List.drop_zero, List.take_of_length_le (by rw [List.length_map, ← hln]; simp [hcs])]
          exact VCs.mono hle (ls.map yA) (fun b hb => by cases hb) c2
/-- Bytes as a string, however many. -/
theorem OpT.bytesStrA {bs : List UInt8} (hs : P.underlying t = some (.slice te)) (he : P.underlying te = some (.int .u8)) (hd : P.underlying t2 = some .string) : OpT P ⟨dst, .convert t t2 x, ty, pos, after, g⟩ [(x, .lst false t' 1 (bs.map yA))] [] (.prim (strA bs)) [] := by
  by_cases h0 : 0 < bs.length
  · exact .bytesStr hs he hd h0
  · obtain rfl : bs = [] := List.eq_nil_of_length_eq_zero (by omega)
    refine .pure_ fun m a hx _ => ?_
    obtain ⟨_, A, cap, e1, _⟩ := hx (x, .lst false t' 1 (([] : List UInt8).map yA)) (by simp)
    injection e1 with e1
    refine ⟨.string ⟨([] : List UInt8).toArray⟩, ?_, vv_prim _⟩
    have hl : (loadCells ⟨0, 0, none⟩ 0).run P m.w = .ok #[] m.w := by have := run_loadCells_list (P := P) m.w ⟨0, 0, none⟩ [] (fun j v hj => by cases hj); simpa using this
    cases A with
    | none =>
      simp only [execOp, show a.eval x = _ from e1, Sem.run_bind, run_convert_bytes_string m.w t t2 te _ _ _ hs he hd]
      simp [Conv.bytesToString, Sem.run_pure, Result.andThen_ok]
      rfl
    | some A =>
      have hl : (loadCells A 0).run P m.w = .ok #[] m.w := by have := run_loadCells_list (P := P) m.w A [] (fun j v hj => by cases hj); simpa using this
      simp only [execOp, show a.eval x = _ from e1, Sem.run_bind, run_convert_bytes_string m.w t t2 te _ _ _ hs he hd, run_bytesToString m.w A 0 cap [] (by simpa using hl), List.map_nil, List.length_nil, Result.andThen_ok, Sem.run_pure]
      rfl
theorem W.bytesStrA {c : Option (List Bool)} (bs : List UInt8) (hs : P.underlying t = some (.slice te)) (he : P.underlying te = some (.int .u8)) (hd : P.underlying t2 = some .string) (hx : Rd c T x (.lst false t' 1 (bs.map yA))) : Stp c P ⟨dst, .convert t t2 x, ty, pos, after, g⟩ T S [(x, .lst false t' 1 (bs.map yA))] [] (.prim (strA bs)) [] :=
  ⟨.bytesStrA hs he hd, .cons hx .nil, .nil⟩
theorem bytesOf_map (ls : List UInt8) : Lib.bytesOf (ls.map fun b => ((b.toNat : Nat) : Int)) = ls := by
  unfold Lib.bytesOf
  rw [List.map_map]
  refine (List.map_congr_left fun b _ => ?_).trans (List.map_id ls)
  simp
/-- The library's place of a byte, which has no body. -/
theorem OpT.idxByte {f : FuncId} {fn : Func} {ls : List UInt8} {c : UInt8} (hf : P.funcs[f]? = some fn) (hname : (fn.name == "runtime.NumGoroutine") = false) (hb : fn.body.isNone = true) (hn : Extern.findNext fn = none) (he : Extern.find fn = some Extern.BytealgIndexByte.indexByte) (h0 : 0 < ls.length) :
    OpT P ⟨dst, .call ⟨.value (.func f), #[x, y], ats⟩, ty, pos, after, g⟩ [(x, .lst false t' 1 (ls.map yA)), (y, yA c)] [] (.prim (.int .i64 (Lib.indexByte ls c))) [] :=
  .pure_ fun m a hx _ => by
    obtain ⟨_, A, cap, e1, hlc, hw, hr⟩ := hx (x, .lst false t' 1 (ls.map yA)) (by simp)
    injection e1 with e1
    have e2 := (hx (y, yA c) (by simp)).prim
    simp only at e2
    rw [List.length_map] at e1 hr
    obtain ⟨b, off, arr, tt, r, rfl, hF, hb', hv⟩ := hr h0
    have hcells : (arr.toList.drop off).take (ls.length * 1) = (ls.map fun b => ((b.toNat : Nat) : Int)).map (Value.int .u8) := by
      have h2 := (VCs.prims (us := (ls.map fun b => ((b.toNat : Nat) : Int)).map (Value.int .u8)) (by rw [List.map_map, List.map_map]; exact hv)).1
      exact h2
    have hidx := Lib.run_indexByteSlice (P := P) m.w b off ls.length cap (ls.map fun b => ((b.toNat : Nat) : Int)) (by rw [List.length_map]) (fun i hi => by
      have : ((arr.toList.drop off).take (ls.length * 1))[i]? = some (.int .u8 ((ls.map fun b => ((b.toNat : Nat) : Int)).getD i 0)) := by
        rw [hcells, List.getElem?_map, List.getD_eq_getElem?_getD, List.getElem?_eq_getElem (by simpa using hi)]
        rfl
      rw [List.getElem?_take, if_pos (by omega), List.getElem?_drop] at this
      simp only [World.cell?, hb']
      simpa using this) ((c.toNat : Nat) : Int)
    refine ⟨_, ?_, vv_prim _⟩
    rw [bytesOf_map] at hidx
    have hcc : (((c.toNat : Nat) : Int).toNat.toUInt8) = c := by simp
    rw [hcc] at hidx
    have := run_callFunc_extern hf hname hb hn he #[.slice (some ⟨b, off, none⟩) ls.length cap, .int .u8 ((c.toNat : Nat) : Int)] m.w
    rw [hidx, Result.andThen_ok] at this
    have hev : a.eval (.func f) = .func (.func f) #[] #[] := rfl
    have hex : (execOp a.eval ⟨dst, .call ⟨.value (.func f), #[x, y], ats⟩, ty, pos, after, g⟩).run P m.w = (callFunc f #[a.eval x, a.eval y]).run P m.w := by
      simp [execOp, resolve, Deferred.ofValue, invoke, hev, Sem.run_bind, Sem.run_pure, Result.andThen_ok]
    rw [hex, show a.eval x = _ from e1, e2]
    exact this
theorem W.idxByte {c0 : Option (List Bool)} {f : FuncId} (fn : Func) (ls : List UInt8) (c : UInt8) (hf : P.funcs[f]? = some fn) (hname : (fn.name == "runtime.NumGoroutine") = false) (hb : fn.body.isNone = true) (hn : Extern.findNext fn = none) (he : Extern.find fn = some Extern.BytealgIndexByte.indexByte) (h0 : 0 < ls.length) (hx : Rd c0 T x (.lst false t' 1 (ls.map yA))) (hy : Rd c0 T y (yA c)) :
    Stp c0 P ⟨dst, .call ⟨.value (.func f), #[x, y], ats⟩, ty, pos, after, g⟩ T S [(x, .lst false t' 1 (ls.map yA)), (y, yA c)] [] (.prim (.int .i64 (Lib.indexByte ls c))) [] := ⟨.idxByte hf hname hb hn he h0, .cons hx (.cons hy .nil), .nil⟩
end
end Go.Proofs.Ytbfcbfgpbbkecaa

namespace Go.Proofs.Ytbfcbfgpbbkecaa
set_option linter.unusedVariables false
variable {ro : Option Nat}
section
variable {P : Program} {nt : Nat} {ops : Array Oper} {Q : Exit → St → Prop} {rest : List Oper} {T : List (Nat × AV)} {S : List Slot} {f : FuncId} {x0 x1 x2 x3 : Operand} {v0 v1 v2 v3 r v : AV} {dst : Option Tmp} {ats : Array TypeId} {ty : TypeId} {pos : String} {after : Array Edge} {p1 : Nat} {z1 : Slot} {y1 : Nat → Slot}
theorem AOps.eU1 (h : Spec P f [v0] [z1] fun r' S' => ∃ b : Nat, r' = r ∧ S' = [y1 b]) [hf : Frz r v] (k : ∀ b : Nat, AOps ro P nt ops Q rest ⟨putD T dst v, setAll S [(p1, y1 b)]⟩)
    (a1 : At S p1 z1 := by exact At.f) (hnd : nodupB [p1] = true := by rfl) (h0 : Rd none T x0 v0 := by rfl) (ht : noTup [(x0, v0)] = true := by rfl) (hd : dstOk dst nt = true := by rfl) :
    AOps ro P nt ops Q (⟨dst, .call ⟨.value (.func f), #[x0], ats⟩, ty, pos, after, none⟩ :: rest) ⟨T, S⟩ :=
  AOps.callE (xs := [(x0, v0)]) (C := fun _ => True) (rr := fun _ => r) (vv := fun _ => v) (So := fun b => [y1 b]) (nw := fun _ => []) (gs := []) (rS := [(p1, z1)]) (wE := fun b => [(p1, y1 b)])
    (h.mono fun r' S' ⟨b, e1, e2⟩ => ⟨b, trivial, e1, e2⟩) (fun _ => .fz) (fun _ => rfl) (fun b => .cons a1 .nil) (nodupB_spec hnd) rfl (.cons a1 .nil) (.cons h0 .nil) ht hd (fun b _ => k b)
end
end Go.Proofs.Ytbfcbfgpbbkecaa

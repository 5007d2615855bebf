/-
  A slice written out in place, as a list that nobody writes any more; an append that keeps the place of its row. No conditions.
-/
import Derived.Test.YtcfleoaldoebhaaAbs15
namespace Go.Proofs.Ytcfleoaldoebhaa
set_option linter.unusedVariables false
theorem fillE_len {sz : Nat} : ∀ (xs : List (Nat × AV)) (l l' : List AV), fillE sz l xs = some l' → l'.length = l.length
  | [], l, l', h => by injection h with h; rw [h]
  | (i, v) :: r, l, l', h => by
    unfold fillE at h
    split at h
    · cases h
    · rw [fillE_len r _ _ h, List.length_set]
theorem Rel.sub {nt : Nat} {m0 : Mem} {T : List (Nat × AV)} {S S' : List Slot} {a : Act} {w : World} (h : Rel nt m0 ⟨T, S⟩ a w) (k : S'.Sublist S) : Rel nt m0 ⟨T, S'⟩ a w := by
  obtain ⟨m, N, Z, h1, h2, h3, h4⟩ := h
  obtain ⟨Z', hs, hm⟩ := sub_lift _ k h2
  exact ⟨m, N, Z', h1, hm, h3.sub hs, h4⟩
/-- The value b is the value a with all that it owns frozen. -/
class Frz (a : AV) (b : outParam AV) : Prop where h : a.frz = b
class Frzs (a : List AV) (b : outParam (List AV)) : Prop where h : AV.frzs a = b
instance {u : Value} : Frz (.prim u) (.prim u) := ⟨rfl⟩
instance {x o l : Nat} : Frz (.sl x o l) (.sl x o l) := ⟨rfl⟩
instance {x o l : Nat} : Frz (.ptr x o l) (.ptr x o l) := ⟨rfl⟩
instance {o : Bool} {t : TypeId} {sz : Nat} {l l' : List AV} [h : Frzs l l'] : Frz (.lst o t sz l) (.lst false t sz l') := ⟨by show AV.lst false t sz (AV.frzs l) = _; rw [h.h]⟩
instance {l l' : List AV} [h : Frzs l l'] : Frz (.agg l) (.agg l') := ⟨by show AV.agg (AV.frzs l) = _; rw [h.h]⟩
instance {l l' : List AV} [h : Frzs l l'] : Frz (.tup l) (.tup l') := ⟨by show AV.tup (AV.frzs l) = _; rw [h.h]⟩
instance {t : TypeId} {a b : AV} [h : Frz a b] : Frz (.bx t a) (.fp [b]) := ⟨by show AV.fp [AV.frz a] = _; rw [h.h]⟩
instance : Frzs [] [] := ⟨rfl⟩
instance {a b : AV} {l l' : List AV} [h : Frz a b] [k : Frzs l l'] : Frzs (a :: l) (b :: l') := ⟨by show AV.frz a :: AV.frzs l = _; rw [h.h, k.h]⟩
instance {α : Type} {f g : α → AV} {l : List α} [h : ∀ a, Frz (f a) (g a)] : Frzs (l.map f) (l.map g) := ⟨by rw [frzs_map, List.map_map]; exact List.map_congr_left fun a _ => (h a).h⟩
/-! ### structs in plain sight -/
def over : List AV → List AV → List AV
  | w :: ws, _ :: cs => w :: over ws cs
  | _, cs => cs
def putC : List AV → Nat → List AV → List AV
  | cs, 0, ws => over ws cs
  | c :: cs, k + 1, ws => c :: putC cs k ws
  | [], _ + 1, _ => []
def offC : List (Nat × Nat) → Nat → Nat
  | (o, _) :: _, 0 => o
  | _ :: r, i + 1 => offC r i
  | [], _ => 0
def fillC (pl : List (Nat × Nat)) : List AV → List (Nat × AV) → List AV
  | cs, [] => cs
  | cs, (i, v) :: r => fillC pl (putC cs (offC pl i) v.cells) r
def putN : AV → Nat → AV → AV
  | .agg cs, k, v => .agg (putC cs k v.cells)
  | _, _, v => v
theorem fill_nrm {pl : List (Nat × Nat)} {l cs : List AV} {xs : List (Nat × AV)} (h : fillC pl l xs = cs) (k : fillA pl l xs = some (fillC pl l xs)) : fillA pl l xs = some cs := h ▸ k
theorem set_nrm {l l' : List AV} {a b : Nat} {e v : AV} (h : l.set a (putN e b v) = l') (k : putPart e b v = putN e b v) : l.set a (putPart e b v) = l' := k ▸ h
theorem z_nrm {zl : List Value} {ag : Bool} {a : AV} (h : zAV zl ag = a) : zAV zl ag = a := h
section
variable {P : Program} {dst : Option Tmp} {ty t te : TypeId} {pos : String} {after : Array Edge} {g : Option (Nat × Bool)} {sz : Nat}
theorem OpT.litF {ps : List (Nat × Operand × AV)} {zl : List Value} {ag : Bool} {n : Nat} {l : List AV} (he : tElem P t = some te) (hz : tZ P te = some zl) (hsz : tSz P te = some sz) (hzs : zl.length = sz) (hag : ag = true ∨ zl.length = 1) (hn : n * sz ≤ 16777216) (h0 : 0 < n * sz)
    (hf : fillE sz (List.replicate n (zAV zl ag)) (ps.map fun q => (q.1, q.2.2)) = some l) : OpT P ⟨dst, .buildSlice t n (ps.map fun q => (q.1, q.2.1)).toArray, ty, pos, after, g⟩ (ps.map (·.2)) [] (.lst false te sz (AV.frzs l)) [] := by
  intro nt m0 T S a w hx hS hd hr
  obtain ⟨_, hr', X, rfl⟩ := St.reserve (nt := nt) ⟨T, S⟩ m0 a w hr
  have hl : n = l.length := by rw [fillE_len _ _ _ hf, List.length_replicate]
  refine Oper.wp_mono (fun a' w' h => ?_) (OpT.buildSlice (dst := dst) (ty := ty) (t := t) (pos := pos) (after := after) (g := g) (X := X) (p := 0) he hz hsz hzs hag hn h0 hf nt m0 T ((X, .gone) :: S) a w hx (by simp) hd hr')
  cases dst with
  | none => exact Rel.sub h (.cons _ (.refl _))
  | some d =>
    obtain ⟨_, h2, rfl⟩ := St.ice (nt := nt) (st := ⟨putD T (some d) (.sl X 0 n), setAll ((X, .gone) :: S) [(0, (X, .row te sz l))]⟩) (d := d) (n := n) (p := 0) (X := X) (t := te) (sz := sz) (l := l) (by simp [putD, look_cons]) .here hl m0 a' w' h
    refine Rel.sub (Rel.congr h2 fun e v he => ?_) (.cons _ (.refl _))
    simp only [putD, look_cons] at he ⊢
    by_cases e' : e = d
    · simpa [e'] using he
    · simpa [e'] using he
end
namespace W
theorem storeN {P : Program} {dst : Option Tmp} {ty t t' : TypeId} {pos : String} {after : Array Edge} {g : Option (Nat × Bool)} {T : List (Nat × AV)} {S : List Slot} {c : Option (List Bool)} {l l' : List AV} {x y : Operand} {X p sz n a b : Nat} {e v : AV} [TSize P t n] (hx : Rd c T x (.ptr X a b)) (hy : Rd c T y v) (hSp : At S p (X, .row t' sz l)) (hi : l[a]? = some e) (h : putOk e b n v = true) (hl : l.set a (putPart e b v) = l') : Stp c P ⟨dst, .store t x y, ty, pos, after, g⟩ T S [(x, .ptr X a b), (y, v)] [(p, (X, .row t' sz l))] .dead [(p, (X, .row t' sz l'))] := hl ▸ W.store hx hy hSp hi h
theorem allocN {P : Program} {dst : Option Tmp} {ty t : TypeId} {pos : String} {after : Array Edge} {g : Option (Nat × Bool)} {T : List (Nat × AV)} {S : List Slot} {c : Option (List Bool)} {X p : Nat} {zl : List Value} {ag : Bool} {a : AV} {n : Nat} [TZe P t zl] [TAg P t ag] (hSp : At S p (X, .gone)) (h : ag = true ∨ zl.length = 1) (hz : zAV zl ag = a) (hn : zl.length = n) : Stp c P ⟨dst, .alloc t, ty, pos, after, g⟩ T S [] [(p, (X, .gone))] (.ptr X 0 0) [(p, (X, .row t n [a]))] := hz ▸ hn ▸ W.alloc hSp h
theorem loadW {P : Program} {dst : Option Tmp} {ty t t' : TypeId} {pos : String} {after : Array Edge} {g : Option (Nat × Bool)} {T : List (Nat × AV)} {S : List Slot} {c : Option (List Bool)} {l : List AV} {x : Operand} {X p sz n a : Nat} {e : AV} [TAg P t true] [TSize P t n] (hx : Rd c T x (.ptr X a 0)) (hSp : At S p (X, .row t' sz l)) (hi : l[a]? = some e) (h : partOf e.cells 0 n true = some e) : Stp c P ⟨dst, .load t x, ty, pos, after, g⟩ T S [(x, .ptr X a 0)] [(p, (X, .row t' sz l))] e [] := W.load hx hSp hi h
theorem loadFW {P : Program} {dst : Option Tmp} {ty t : TypeId} {pos : String} {after : Array Edge} {g : Option (Nat × Bool)} {T : List (Nat × AV)} {S : List Slot} {c : Option (List Bool)} {x : Operand} {n : Nat} {e : AV} [TAg P t true] [TSize P t n] (hx : Rd c T x (.fp e.cells)) (h : partOf e.cells 0 n true = some e) : Stp c P ⟨dst, .load t x, ty, pos, after, g⟩ T S [(x, .fp e.cells)] [] e [] := W.loadF hx h
variable {P : Program} {dst : Option Tmp} {ty t te : TypeId} {pos : String} {after : Array Edge} {g : Option (Nat × Bool)} {sz : Nat} {T : List (Nat × AV)} {S : List Slot} {c : Option (List Bool)} {l l' : List AV}
theorem litF0  {zl : List Value} {ag : Bool} [TEl P t te] [TZe P te zl] [TSize P te sz] [TAg P te ag]  (hzs : zl.length = sz) (hag : ag = true ∨ zl.length = 1) (hn : 0 * sz ≤ 16777216) (hpos : 0 < 0 * sz) (hf : fillE sz (List.replicate 0 (zAV zl ag)) [] = some []) [hz : Frzs [] l'] : Stp c P ⟨dst, .buildSlice t 0 #[], ty, pos, after, g⟩ T S [] [] (.lst false te sz l') [] := ⟨hz.h ▸ OpT.litF (ps := []) TEl.h TZe.h TSize.h hzs hag hn hpos hf, .nil, .nil⟩
theorem litF1 {x0 : Operand} {v0 : AV} {zl : List Value} {ag : Bool} [TEl P t te] [TZe P te zl] [TSize P te sz] [TAg P te ag] (h0 : Rd c T x0 v0) (hzs : zl.length = sz) (hag : ag = true ∨ zl.length = 1) (hn : 1 * sz ≤ 16777216) (hpos : 0 < 1 * sz) (hf : fillE sz (List.replicate 1 (zAV zl ag)) [(0, v0)] = some [v0]) [hz : Frzs [v0] l'] : Stp c P ⟨dst, .buildSlice t 1 #[(0, x0)], ty, pos, after, g⟩ T S [(x0, v0)] [] (.lst false te sz l') [] := ⟨hz.h ▸ OpT.litF (ps := [(0, x0, v0)]) TEl.h TZe.h TSize.h hzs hag hn hpos hf, (.cons h0 .nil), .nil⟩
theorem litF2 {x0 : Operand} {v0 : AV} {x1 : Operand} {v1 : AV} {zl : List Value} {ag : Bool} [TEl P t te] [TZe P te zl] [TSize P te sz] [TAg P te ag] (h0 : Rd c T x0 v0) (h1 : Rd c T x1 v1) (hzs : zl.length = sz) (hag : ag = true ∨ zl.length = 1) (hn : 2 * sz ≤ 16777216) (hpos : 0 < 2 * sz) (hf : fillE sz (List.replicate 2 (zAV zl ag)) [(0, v0), (1, v1)] = some [v0, v1]) [hz : Frzs [v0, v1] l'] : Stp c P ⟨dst, .buildSlice t 2 #[(0, x0), (1, x1)], ty, pos, after, g⟩ T S [(x0, v0), (x1, v1)] [] (.lst false te sz l') [] := ⟨hz.h ▸ OpT.litF (ps := [(0, x0, v0), (1, x1, v1)]) TEl.h TZe.h TSize.h hzs hag hn hpos hf, (.cons h0 (.cons h1 .nil)), .nil⟩
theorem litF3 {x0 : Operand} {v0 : AV} {x1 : Operand} {v1 : AV} {x2 : Operand} {v2 : AV} {zl : List Value} {ag : Bool} [TEl P t te] [TZe P te zl] [TSize P te sz] [TAg P te ag] (h0 : Rd c T x0 v0) (h1 : Rd c T x1 v1) (h2 : Rd c T x2 v2) (hzs : zl.length = sz) (hag : ag = true ∨ zl.length = 1) (hn : 3 * sz ≤ 16777216) (hpos : 0 < 3 * sz) (hf : fillE sz (List.replicate 3 (zAV zl ag)) [(0, v0), (1, v1), (2, v2)] = some [v0, v1, v2]) [hz : Frzs [v0, v1, v2] l'] : Stp c P ⟨dst, .buildSlice t 3 #[(0, x0), (1, x1), (2, x2)], ty, pos, after, g⟩ T S [(x0, v0), (x1, v1), (x2, v2)] [] (.lst false te sz l') [] := ⟨hz.h ▸ OpT.litF (ps := [(0, x0, v0), (1, x1, v1), (2, x2, v2)]) TEl.h TZe.h TSize.h hzs hag hn hpos hf, (.cons h0 (.cons h1 (.cons h2 .nil))), .nil⟩
theorem litF4 {x0 : Operand} {v0 : AV} {x1 : Operand} {v1 : AV} {x2 : Operand} {v2 : AV} {x3 : Operand} {v3 : AV} {zl : List Value} {ag : Bool} [TEl P t te] [TZe P te zl] [TSize P te sz] [TAg P te ag] (h0 : Rd c T x0 v0) (h1 : Rd c T x1 v1) (h2 : Rd c T x2 v2) (h3 : Rd c T x3 v3) (hzs : zl.length = sz) (hag : ag = true ∨ zl.length = 1) (hn : 4 * sz ≤ 16777216) (hpos : 0 < 4 * sz) (hf : fillE sz (List.replicate 4 (zAV zl ag)) [(0, v0), (1, v1), (2, v2), (3, v3)] = some [v0, v1, v2, v3]) [hz : Frzs [v0, v1, v2, v3] l'] : Stp c P ⟨dst, .buildSlice t 4 #[(0, x0), (1, x1), (2, x2), (3, x3)], ty, pos, after, g⟩ T S [(x0, v0), (x1, v1), (x2, v2), (x3, v3)] [] (.lst false te sz l') [] := ⟨hz.h ▸ OpT.litF (ps := [(0, x0, v0), (1, x1, v1), (2, x2, v2), (3, x3, v3)]) TEl.h TZe.h TSize.h hzs hag hn hpos hf, (.cons h0 (.cons h1 (.cons h2 (.cons h3 .nil)))), .nil⟩
theorem litF5 {x0 : Operand} {v0 : AV} {x1 : Operand} {v1 : AV} {x2 : Operand} {v2 : AV} {x3 : Operand} {v3 : AV} {x4 : Operand} {v4 : AV} {zl : List Value} {ag : Bool} [TEl P t te] [TZe P te zl] [TSize P te sz] [TAg P te ag] (h0 : Rd c T x0 v0) (h1 : Rd c T x1 v1) (h2 : Rd c T x2 v2) (h3 : Rd c T x3 v3) (h4 : Rd c T x4 v4) (hzs : zl.length = sz) (hag : ag = true ∨ zl.length = 1) (hn : 5 * sz ≤ 16777216) (hpos : 0 < 5 * sz) (hf : fillE sz (List.replicate 5 (zAV zl ag)) [(0, v0), (1, v1), (2, v2), (3, v3), (4, v4)] = some [v0, v1, v2, v3, v4]) [hz : Frzs [v0, v1, v2, v3, v4] l'] : Stp c P ⟨dst, .buildSlice t 5 #[(0, x0), (1, x1), (2, x2), (3, x3), (4, x4)], ty, pos, after, g⟩ T S [(x0, v0), (x1, v1), (x2, v2), (x3, v3), (x4, v4)] [] (.lst false te sz l') [] := ⟨hz.h ▸ OpT.litF (ps := [(0, x0, v0), (1, x1, v1), (2, x2, v2), (3, x3, v3), (4, x4, v4)]) TEl.h TZe.h TSize.h hzs hag hn hpos hf, (.cons h0 (.cons h1 (.cons h2 (.cons h3 (.cons h4 .nil))))), .nil⟩
theorem litF6 {x0 : Operand} {v0 : AV} {x1 : Operand} {v1 : AV} {x2 : Operand} {v2 : AV} {x3 : Operand} {v3 : AV} {x4 : Operand} {v4 : AV} {x5 : Operand} {v5 : AV} {zl : List Value} {ag : Bool} [TEl P t te] [TZe P te zl] [TSize P te sz] [TAg P te ag] (h0 : Rd c T x0 v0) (h1 : Rd c T x1 v1) (h2 : Rd c T x2 v2) (h3 : Rd c T x3 v3) (h4 : Rd c T x4 v4) (h5 : Rd c T x5 v5) (hzs : zl.length = sz) (hag : ag = true ∨ zl.length = 1) (hn : 6 * sz ≤ 16777216) (hpos : 0 < 6 * sz) (hf : fillE sz (List.replicate 6 (zAV zl ag)) [(0, v0), (1, v1), (2, v2), (3, v3), (4, v4), (5, v5)] = some [v0, v1, v2, v3, v4, v5]) [hz : Frzs [v0, v1, v2, v3, v4, v5] l'] : Stp c P ⟨dst, .buildSlice t 6 #[(0, x0), (1, x1), (2, x2), (3, x3), (4, x4), (5, x5)], ty, pos, after, g⟩ T S [(x0, v0), (x1, v1), (x2, v2), (x3, v3), (x4, v4), (x5, v5)] [] (.lst false te sz l') [] := ⟨hz.h ▸ OpT.litF (ps := [(0, x0, v0), (1, x1, v1), (2, x2, v2), (3, x3, v3), (4, x4, v4), (5, x5, v5)]) TEl.h TZe.h TSize.h hzs hag hn hpos hf, (.cons h0 (.cons h1 (.cons h2 (.cons h3 (.cons h4 (.cons h5 .nil)))))), .nil⟩
theorem litF7 {x0 : Operand} {v0 : AV} {x1 : Operand} {v1 : AV} {x2 : Operand} {v2 : AV} {x3 : Operand} {v3 : AV} {x4 : Operand} {v4 : AV} {x5 : Operand} {v5 : AV} {x6 : Operand} {v6 : AV} {zl : List Value} {ag : Bool} [TEl P t te] [TZe P te zl] [TSize P te sz] [TAg P te ag] (h0 : Rd c T x0 v0) (h1 : Rd c T x1 v1) (h2 : Rd c T x2 v2) (h3 : Rd c T x3 v3) (h4 : Rd c T x4 v4) (h5 : Rd c T x5 v5) (h6 : Rd c T x6 v6) (hzs : zl.length = sz) (hag : ag = true ∨ zl.length = 1) (hn : 7 * sz ≤ 16777216) (hpos : 0 < 7 * sz) (hf : fillE sz (List.replicate 7 (zAV zl ag)) [(0, v0), (1, v1), (2, v2), (3, v3), (4, v4), (5, v5), (6, v6)] = some [v0, v1, v2, v3, v4, v5, v6]) [hz : Frzs [v0, v1, v2, v3, v4, v5, v6] l'] : Stp c P ⟨dst, .buildSlice t 7 #[(0, x0), (1, x1), (2, x2), (3, x3), (4, x4), (5, x5), (6, x6)], ty, pos, after, g⟩ T S [(x0, v0), (x1, v1), (x2, v2), (x3, v3), (x4, v4), (x5, v5), (x6, v6)] [] (.lst false te sz l') [] := ⟨hz.h ▸ OpT.litF (ps := [(0, x0, v0), (1, x1, v1), (2, x2, v2), (3, x3, v3), (4, x4, v4), (5, x5, v5), (6, x6, v6)]) TEl.h TZe.h TSize.h hzs hag hn hpos hf, (.cons h0 (.cons h1 (.cons h2 (.cons h3 (.cons h4 (.cons h5 (.cons h6 .nil))))))), .nil⟩
theorem litF8 {x0 : Operand} {v0 : AV} {x1 : Operand} {v1 : AV} {x2 : Operand} {v2 : AV} {x3 : Operand} {v3 : AV} {x4 : Operand} {v4 : AV} {x5 : Operand} {v5 : AV} {x6 : Operand} {v6 : AV} {x7 : Operand} {v7 : AV} {zl : List Value} {ag : Bool} [TEl P t te] [TZe P te zl] [TSize P te sz] [TAg P te ag] (h0 : Rd c T x0 v0) (h1 : Rd c T x1 v1) (h2 : Rd c T x2 v2) (h3 : Rd c T x3 v3) (h4 : Rd c T x4 v4) (h5 : Rd c T x5 v5) (h6 : Rd c T x6 v6) (h7 : Rd c T x7 v7) (hzs : zl.length = sz) (hag : ag = true ∨ zl.length = 1) (hn : 8 * sz ≤ 16777216) (hpos : 0 < 8 * sz) (hf : fillE sz (List.replicate 8 (zAV zl ag)) [(0, v0), (1, v1), (2, v2), (3, v3), (4, v4), (5, v5), (6, v6), (7, v7)] = some [v0, v1, v2, v3, v4, v5, v6, v7]) [hz : Frzs [v0, v1, v2, v3, v4, v5, v6, v7] l'] : Stp c P ⟨dst, .buildSlice t 8 #[(0, x0), (1, x1), (2, x2), (3, x3), (4, x4), (5, x5), (6, x6), (7, x7)], ty, pos, after, g⟩ T S [(x0, v0), (x1, v1), (x2, v2), (x3, v3), (x4, v4), (x5, v5), (x6, v6), (x7, v7)] [] (.lst false te sz l') [] := ⟨hz.h ▸ OpT.litF (ps := [(0, x0, v0), (1, x1, v1), (2, x2, v2), (3, x3, v3), (4, x4, v4), (5, x5, v5), (6, x6, v6), (7, x7, v7)]) TEl.h TZe.h TSize.h hzs hag hn hpos hf, (.cons h0 (.cons h1 (.cons h2 (.cons h3 (.cons h4 (.cons h5 (.cons h6 (.cons h7 .nil)))))))), .nil⟩
end W
end Go.Proofs.Ytcfleoaldoebhaa

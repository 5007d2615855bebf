/-
  Part 3 of the texts under the law MigrateNames: the layer of abstract values, walks and plain laws. Conditions: those that each theorem names.
-/
import Derived.Lib.SliceRun
import Derived.Test.YtfkppbkipbbmaaaMigrateNamesP2
namespace Go.Proofs.Ytfkppbkipbbmaaa
set_option linter.unusedVariables false
variable {ro : Option Nat}
section
variable {P : Program} {nt : Nat} {ops : Array Oper} {Q : Exit → St → Prop} {rest : List Oper} {T : List (Nat × AV)} {S : List Slot} {xs : List (Operand × AV)} {rS wS : List (Nat × Slot)} {v : AV} {op : Op} {ty : TypeId} {pos : String} {after : Array Edge} {dst : Option Tmp} {l : List Oper} {acc : List Eff}
/-- A step that turns no object. -/
theorem RGo.go {g : Option (Nat × Bool)} {ts : List Nat} (k : RGo P nt ops l Q rest (acc ++ [⟨⟨dst, op, ty, pos, after, g⟩, ts ++ tmpsOf xs, rS.map (·.1), v, []⟩]) ⟨putD T dst v, S⟩) (h : Stp none P ⟨dst, op, ty, pos, after, g⟩ T S xs rS v [] := by exact Stp.f0) (hd : dstOk dst nt = true := by rfl) (hg : Grd ops T g ts := by first | exact .none | exact .met rfl rfl (by first | rfl | assumption)) : RGo P nt ops l Q (⟨dst, op, ty, pos, after, g⟩ :: rest) acc ⟨T, S⟩ := RGo.pg h hd hg k
/-- A store. -/
theorem RGo.goS {g : Option (Nat × Bool)} {ts : List Nat} (k : RGo P nt ops l Q rest (acc ++ [⟨⟨dst, op, ty, pos, after, g⟩, ts ++ tmpsOf xs, rS.map (·.1), v, wS⟩]) ⟨putD T dst v, setAll S wS⟩) (h : Stp none P ⟨dst, op, ty, pos, after, g⟩ T S xs rS v wS := by exact Stp.st) (hd : dstOk dst nt = true := by rfl) (hg : Grd ops T g ts := by first | exact .none | exact .met rfl rfl (by first | rfl | assumption)) : RGo P nt ops l Q (⟨dst, op, ty, pos, after, g⟩ :: rest) acc ⟨T, S⟩ := RGo.sg h hd hg k
theorem RGo.goQ1 {g : Nat} {b b' : Bool} {t : Nat} (k : RGo P nt ops l Q rest (acc ++ [⟨⟨dst, op, ty, pos, after, some (g, b)⟩, t :: tmpsOf xs, rS.map (·.1), (.opt (b' == b) v), []⟩]) ⟨putD T dst (.opt (b' == b) v), S⟩) (ht : (ops[g]?).bind (·.dst) = some t := by rfl) (hv : look T t = some (.prim (.bool b')) := by rfl) (h : Stp (some [b' == b]) P ⟨dst, op, ty, pos, after, some (g, b)⟩ T S xs rS v [] := by exact Stp.f1) (hd : dstOk dst nt = true := by rfl) (hos : onceT xs = true := by exact rfl) : RGo P nt ops l Q (⟨dst, op, ty, pos, after, some (g, b)⟩ :: rest) acc ⟨T, S⟩ := RGo.sQ1 h ht hv hd hos k
theorem RGo.goQ2 {c1 : Bool} {g : Nat} {b b' : Bool} {t : Nat} (k : RGo P nt ops l Q rest (acc ++ [⟨⟨dst, op, ty, pos, after, some (g, b)⟩, t :: tmpsOf xs, rS.map (·.1), (.opt c1 (.opt (b' == b) v)), []⟩]) ⟨putD T dst (.opt c1 (.opt (b' == b) v)), S⟩) (ht : (ops[g]?).bind (·.dst) = some t := by rfl) (hv : look T t = some (.opt c1 (.prim (.bool b'))) := by rfl) (h : Stp (some [c1, b' == b]) P ⟨dst, op, ty, pos, after, some (g, b)⟩ T S xs rS v [] := by exact Stp.f2) (hd : dstOk dst nt = true := by rfl) (hos : onceT xs = true := by exact rfl) : RGo P nt ops l Q (⟨dst, op, ty, pos, after, some (g, b)⟩ :: rest) acc ⟨T, S⟩ := RGo.sQ2 h ht hv hd hos k
theorem RGo.goQ3 {c1 c2 : Bool} {g : Nat} {b b' : Bool} {t : Nat} (k : RGo P nt ops l Q rest (acc ++ [⟨⟨dst, op, ty, pos, after, some (g, b)⟩, t :: tmpsOf xs, rS.map (·.1), (.opt c1 (.opt c2 (.opt (b' == b) v))), []⟩]) ⟨putD T dst (.opt c1 (.opt c2 (.opt (b' == b) v))), S⟩) (ht : (ops[g]?).bind (·.dst) = some t := by rfl) (hv : look T t = some (.opt c1 (.opt c2 (.prim (.bool b')))) := by rfl) (h : Stp (some [c1, c2, b' == b]) P ⟨dst, op, ty, pos, after, some (g, b)⟩ T S xs rS v [] := by exact Stp.f3) (hd : dstOk dst nt = true := by rfl) (hos : onceT xs = true := by exact rfl) : RGo P nt ops l Q (⟨dst, op, ty, pos, after, some (g, b)⟩ :: rest) acc ⟨T, S⟩ := RGo.sQ3 h ht hv hd hos k
theorem RGo.goG {g : Nat} {b b' : Bool} {t : Nat} (k : RGo P nt ops l Q rest (acc ++ [⟨⟨dst, op, ty, pos, after, some (g, b)⟩, t :: tmpsOf xs, rS.map (·.1), v, wS⟩]) ⟨putD T dst v, setAll S wS⟩) (hb : b' = b) (ht : (ops[g]?).bind (·.dst) = some t := by rfl) (hv : look T t = some (.prim (.bool b')) := by rfl) (h : Stp none P ⟨dst, op, ty, pos, after, some (g, b)⟩ T S xs rS v wS := by first | exact Stp.st | exact Stp.f0) (hd : dstOk dst nt = true := by rfl) : RGo P nt ops l Q (⟨dst, op, ty, pos, after, some (g, b)⟩ :: rest) acc ⟨T, S⟩ := RGo.sG ht hv hb h hd k
theorem RGo.goN {g : Nat} {b b' : Bool} {t : Nat} (k : RGo P nt ops l Q rest (acc ++ [⟨⟨dst, op, ty, pos, after, some (g, b)⟩, [t], [], .dead, []⟩]) ⟨putD T dst .dead, S⟩) (ht : (ops[g]?).bind (·.dst) = some t := by rfl) (hv : look T t = some (.prim (.bool b')) := by rfl) (hb : b' = !b := by first | rfl | assumption | (simp only [Bool.not_true, Bool.not_false]; assumption)) (hd : dstOk dst nt = true := by rfl) : RGo P nt ops l Q (⟨dst, op, ty, pos, after, some (g, b)⟩ :: rest) acc ⟨T, S⟩ := RGo.sN ht hv hb hd k
/-- A new object at a stamp that was kept for it. -/
theorem RGo.goR {g : Option (Nat × Bool)} {ts : List Nat} (k : RGo P nt ops l Q rest (acc ++ [⟨⟨dst, op, ty, pos, after, g⟩, ts ++ tmpsOf xs, rS.map (·.1), v, wS⟩]) ⟨putD T dst v, setAll S wS⟩) (h : Stp none P ⟨dst, op, ty, pos, after, g⟩ T S xs rS v wS := by first | (apply Stp.g_alloc; exact W.allocN (by exact At.f) (by first | exact .inl rfl | exact .inr rfl) (by first | (dsimp only [zAV, List.map]; try exact rfl) | exact rfl) (by exact rfl)) | (apply Stp.g_box; exact W.box rfl (by exact At.f) rfl)) (hd : dstOk dst nt = true := by rfl) (hg : Grd ops T g ts := by first | exact .none | exact .met rfl rfl (by first | rfl | assumption)) : RGo P nt ops l Q (⟨dst, op, ty, pos, after, g⟩ :: rest) acc ⟨T, S⟩ := RGo.sg h hd hg k
theorem RGo.goB {g : Option (Nat × Bool)} {ts : List Nat} {t : TypeId} {x : Operand} {b : AV} (k : RGo P nt ops l Q rest (acc ++ [⟨⟨dst, .box t x, ty, pos, after, g⟩, ts ++ tmpsOf [(x, v)], [], .fp b.cells, []⟩]) ⟨putD T dst (.fp b.cells), S⟩) (hx : Rd none T x v := by rfl) (hs : v.stor = true := by rfl) [hf : Frz v b] (hd : dstOk dst nt = true := by rfl) (hg : Grd ops T g ts := by first | exact .none | exact .met rfl rfl (by first | rfl | assumption)) : RGo P nt ops l Q (⟨dst, .box t x, ty, pos, after, g⟩ :: rest) acc ⟨T, S⟩ := RGo.pg (W.boxF hx hs) hd hg k
theorem RGo.k0 {g : Option (Nat × Bool)} {ts : List Nat}  {x : Operand} {f : FuncId} {cap : List AV} {ats : Array TypeId} {r r' : AV} (hx : Rd none T x (.fn f cap) := by rfl)  (h : PS P f (cap) r) (k : RGo P nt ops l Q rest (acc ++ [⟨⟨dst, .call ⟨.value x, #[], ats⟩, ty, pos, after, g⟩, ts ++ tmpsOf [(x, .fn f cap)], [], r', []⟩]) ⟨putD T dst r', S⟩) [hf : Frz r r'] (hs : st1s cap = true := by first | rfl | assumption) (ht : noTup [] = true := by rfl) (hd : dstOk dst nt = true := by rfl) (hg : Grd ops T g ts := by first | exact .none | exact .met rfl rfl (by first | rfl | assumption)) : RGo P nt ops l Q (⟨dst, .call ⟨.value x, #[], ats⟩, ty, pos, after, g⟩ :: rest) acc ⟨T, S⟩ := RGo.pg (W.callC0 hx  h hs ht hf.h) hd hg k
theorem RGo.q0 {g : Option (Nat × Bool)} {ts : List Nat}  {x : Operand} {f : FuncId} {cap : List AV} {ats : Array TypeId} {r r' : AV} {X p : Nat} {o o' : AO} (hx : Rd none T x (.fn f cap) := by rfl)  (h : PO P f (cap) X o r o') (k : RGo P nt ops l Q rest (acc ++ [⟨⟨dst, .call ⟨.value x, #[], ats⟩, ty, pos, after, g⟩, ts ++ tmpsOf [(x, .fn f cap)], [p], r', [(p, (X, o'))]⟩]) ⟨putD T dst r', setAll S [(p, (X, o'))]⟩) (hSp : At S p (X, o) := by exact At.f) [hf : Frz r r'] (hs : st1s cap = true := by first | rfl | assumption) (ht : noTup [] = true := by rfl) (hd : dstOk dst nt = true := by rfl) (hg : Grd ops T g ts := by first | exact .none | exact .met rfl rfl (by first | rfl | assumption)) : RGo P nt ops l Q (⟨dst, .call ⟨.value x, #[], ats⟩, ty, pos, after, g⟩ :: rest) acc ⟨T, S⟩ := RGo.sg (W.callCO0 hx  hSp h hs ht hf.h) hd hg k
theorem RGo.k1 {g : Option (Nat × Bool)} {ts : List Nat} {x0 : Operand} {v0 : AV} {x : Operand} {f : FuncId} {cap : List AV} {ats : Array TypeId} {r r' : AV} (hx : Rd none T x (.fn f cap) := by rfl) (h0 : Rd none T x0 v0 := by rfl) (h : PS P f (v0 :: cap) r) (k : RGo P nt ops l Q rest (acc ++ [⟨⟨dst, .call ⟨.value x, #[x0], ats⟩, ty, pos, after, g⟩, ts ++ tmpsOf [(x, .fn f cap), (x0, v0)], [], r', []⟩]) ⟨putD T dst r', S⟩) [hf : Frz r r'] (hs : st1s cap = true := by first | rfl | assumption) (ht : noTup [(x0, v0)] = true := by rfl) (hd : dstOk dst nt = true := by rfl) (hg : Grd ops T g ts := by first | exact .none | exact .met rfl rfl (by first | rfl | assumption)) : RGo P nt ops l Q (⟨dst, .call ⟨.value x, #[x0], ats⟩, ty, pos, after, g⟩ :: rest) acc ⟨T, S⟩ := RGo.pg (W.callC1 hx h0 h hs ht hf.h) hd hg k
theorem RGo.q1 {g : Option (Nat × Bool)} {ts : List Nat} {x0 : Operand} {v0 : AV} {x : Operand} {f : FuncId} {cap : List AV} {ats : Array TypeId} {r r' : AV} {X p : Nat} {o o' : AO} (hx : Rd none T x (.fn f cap) := by rfl) (h0 : Rd none T x0 v0 := by rfl) (h : PO P f (v0 :: cap) X o r o') (k : RGo P nt ops l Q rest (acc ++ [⟨⟨dst, .call ⟨.value x, #[x0], ats⟩, ty, pos, after, g⟩, ts ++ tmpsOf [(x, .fn f cap), (x0, v0)], [p], r', [(p, (X, o'))]⟩]) ⟨putD T dst r', setAll S [(p, (X, o'))]⟩) (hSp : At S p (X, o) := by exact At.f) [hf : Frz r r'] (hs : st1s cap = true := by first | rfl | assumption) (ht : noTup [(x0, v0)] = true := by rfl) (hd : dstOk dst nt = true := by rfl) (hg : Grd ops T g ts := by first | exact .none | exact .met rfl rfl (by first | rfl | assumption)) : RGo P nt ops l Q (⟨dst, .call ⟨.value x, #[x0], ats⟩, ty, pos, after, g⟩ :: rest) acc ⟨T, S⟩ := RGo.sg (W.callCO1 hx h0 hSp h hs ht hf.h) hd hg k
theorem RGo.k2 {g : Option (Nat × Bool)} {ts : List Nat} {x0 : Operand} {v0 : AV} {x1 : Operand} {v1 : AV} {x : Operand} {f : FuncId} {cap : List AV} {ats : Array TypeId} {r r' : AV} (hx : Rd none T x (.fn f cap) := by rfl) (h0 : Rd none T x0 v0 := by rfl) (h1 : Rd none T x1 v1 := by rfl) (h : PS P f (v0 :: v1 :: cap) r) (k : RGo P nt ops l Q rest (acc ++ [⟨⟨dst, .call ⟨.value x, #[x0, x1], ats⟩, ty, pos, after, g⟩, ts ++ tmpsOf [(x, .fn f cap), (x0, v0), (x1, v1)], [], r', []⟩]) ⟨putD T dst r', S⟩) [hf : Frz r r'] (hs : st1s cap = true := by first | rfl | assumption) (ht : noTup [(x0, v0), (x1, v1)] = true := by rfl) (hd : dstOk dst nt = true := by rfl) (hg : Grd ops T g ts := by first | exact .none | exact .met rfl rfl (by first | rfl | assumption)) : RGo P nt ops l Q (⟨dst, .call ⟨.value x, #[x0, x1], ats⟩, ty, pos, after, g⟩ :: rest) acc ⟨T, S⟩ := RGo.pg (W.callC2 hx h0 h1 h hs ht hf.h) hd hg k
theorem RGo.q2 {g : Option (Nat × Bool)} {ts : List Nat} {x0 : Operand} {v0 : AV} {x1 : Operand} {v1 : AV} {x : Operand} {f : FuncId} {cap : List AV} {ats : Array TypeId} {r r' : AV} {X p : Nat} {o o' : AO} (hx : Rd none T x (.fn f cap) := by rfl) (h0 : Rd none T x0 v0 := by rfl) (h1 : Rd none T x1 v1 := by rfl) (h : PO P f (v0 :: v1 :: cap) X o r o') (k : RGo P nt ops l Q rest (acc ++ [⟨⟨dst, .call ⟨.value x, #[x0, x1], ats⟩, ty, pos, after, g⟩, ts ++ tmpsOf [(x, .fn f cap), (x0, v0), (x1, v1)], [p], r', [(p, (X, o'))]⟩]) ⟨putD T dst r', setAll S [(p, (X, o'))]⟩) (hSp : At S p (X, o) := by exact At.f) [hf : Frz r r'] (hs : st1s cap = true := by first | rfl | assumption) (ht : noTup [(x0, v0), (x1, v1)] = true := by rfl) (hd : dstOk dst nt = true := by rfl) (hg : Grd ops T g ts := by first | exact .none | exact .met rfl rfl (by first | rfl | assumption)) : RGo P nt ops l Q (⟨dst, .call ⟨.value x, #[x0, x1], ats⟩, ty, pos, after, g⟩ :: rest) acc ⟨T, S⟩ := RGo.sg (W.callCO2 hx h0 h1 hSp h hs ht hf.h) hd hg k
theorem RGo.k3 {g : Option (Nat × Bool)} {ts : List Nat} {x0 : Operand} {v0 : AV} {x1 : Operand} {v1 : AV} {x2 : Operand} {v2 : AV} {x : Operand} {f : FuncId} {cap : List AV} {ats : Array TypeId} {r r' : AV} (hx : Rd none T x (.fn f cap) := by rfl) (h0 : Rd none T x0 v0 := by rfl) (h1 : Rd none T x1 v1 := by rfl) (h2 : Rd none T x2 v2 := by rfl) (h : PS P f (v0 :: v1 :: v2 :: cap) r) (k : RGo P nt ops l Q rest (acc ++ [⟨⟨dst, .call ⟨.value x, #[x0, x1, x2], ats⟩, ty, pos, after, g⟩, ts ++ tmpsOf [(x, .fn f cap), (x0, v0), (x1, v1), (x2, v2)], [], r', []⟩]) ⟨putD T dst r', S⟩) [hf : Frz r r'] (hs : st1s cap = true := by first | rfl | assumption) (ht : noTup [(x0, v0), (x1, v1), (x2, v2)] = true := by rfl) (hd : dstOk dst nt = true := by rfl) (hg : Grd ops T g ts := by first | exact .none | exact .met rfl rfl (by first | rfl | assumption)) : RGo P nt ops l Q (⟨dst, .call ⟨.value x, #[x0, x1, x2], ats⟩, ty, pos, after, g⟩ :: rest) acc ⟨T, S⟩ := RGo.pg (W.callC3 hx h0 h1 h2 h hs ht hf.h) hd hg k
theorem RGo.q3 {g : Option (Nat × Bool)} {ts : List Nat} {x0 : Operand} {v0 : AV} {x1 : Operand} {v1 : AV} {x2 : Operand} {v2 : AV} {x : Operand} {f : FuncId} {cap : List AV} {ats : Array TypeId} {r r' : AV} {X p : Nat} {o o' : AO} (hx : Rd none T x (.fn f cap) := by rfl) (h0 : Rd none T x0 v0 := by rfl) (h1 : Rd none T x1 v1 := by rfl) (h2 : Rd none T x2 v2 := by rfl) (h : PO P f (v0 :: v1 :: v2 :: cap) X o r o') (k : RGo P nt ops l Q rest (acc ++ [⟨⟨dst, .call ⟨.value x, #[x0, x1, x2], ats⟩, ty, pos, after, g⟩, ts ++ tmpsOf [(x, .fn f cap), (x0, v0), (x1, v1), (x2, v2)], [p], r', [(p, (X, o'))]⟩]) ⟨putD T dst r', setAll S [(p, (X, o'))]⟩) (hSp : At S p (X, o) := by exact At.f) [hf : Frz r r'] (hs : st1s cap = true := by first | rfl | assumption) (ht : noTup [(x0, v0), (x1, v1), (x2, v2)] = true := by rfl) (hd : dstOk dst nt = true := by rfl) (hg : Grd ops T g ts := by first | exact .none | exact .met rfl rfl (by first | rfl | assumption)) : RGo P nt ops l Q (⟨dst, .call ⟨.value x, #[x0, x1, x2], ats⟩, ty, pos, after, g⟩ :: rest) acc ⟨T, S⟩ := RGo.sg (W.callCO3 hx h0 h1 h2 hSp h hs ht hf.h) hd hg k
theorem RGo.k4 {g : Option (Nat × Bool)} {ts : List Nat} {x0 : Operand} {v0 : AV} {x1 : Operand} {v1 : AV} {x2 : Operand} {v2 : AV} {x3 : Operand} {v3 : AV} {x : Operand} {f : FuncId} {cap : List AV} {ats : Array TypeId} {r r' : AV} (hx : Rd none T x (.fn f cap) := by rfl) (h0 : Rd none T x0 v0 := by rfl) (h1 : Rd none T x1 v1 := by rfl) (h2 : Rd none T x2 v2 := by rfl) (h3 : Rd none T x3 v3 := by rfl) (h : PS P f (v0 :: v1 :: v2 :: v3 :: cap) r) (k : RGo P nt ops l Q rest (acc ++ [⟨⟨dst, .call ⟨.value x, #[x0, x1, x2, x3], ats⟩, ty, pos, after, g⟩, ts ++ tmpsOf [(x, .fn f cap), (x0, v0), (x1, v1), (x2, v2), (x3, v3)], [], r', []⟩]) ⟨putD T dst r', S⟩) [hf : Frz r r'] (hs : st1s cap = true := by first | rfl | assumption) (ht : noTup [(x0, v0), (x1, v1), (x2, v2), (x3, v3)] = true := by rfl) (hd : dstOk dst nt = true := by rfl) (hg : Grd ops T g ts := by first | exact .none | exact .met rfl rfl (by first | rfl | assumption)) : RGo P nt ops l Q (⟨dst, .call ⟨.value x, #[x0, x1, x2, x3], ats⟩, ty, pos, after, g⟩ :: rest) acc ⟨T, S⟩ := RGo.pg (W.callC4 hx h0 h1 h2 h3 h hs ht hf.h) hd hg k
theorem RGo.q4 {g : Option (Nat × Bool)} {ts : List Nat} {x0 : Operand} {v0 : AV} {x1 : Operand} {v1 : AV} {x2 : Operand} {v2 : AV} {x3 : Operand} {v3 : AV} {x : Operand} {f : FuncId} {cap : List AV} {ats : Array TypeId} {r r' : AV} {X p : Nat} {o o' : AO} (hx : Rd none T x (.fn f cap) := by rfl) (h0 : Rd none T x0 v0 := by rfl) (h1 : Rd none T x1 v1 := by rfl) (h2 : Rd none T x2 v2 := by rfl) (h3 : Rd none T x3 v3 := by rfl) (h : PO P f (v0 :: v1 :: v2 :: v3 :: cap) X o r o') (k : RGo P nt ops l Q rest (acc ++ [⟨⟨dst, .call ⟨.value x, #[x0, x1, x2, x3], ats⟩, ty, pos, after, g⟩, ts ++ tmpsOf [(x, .fn f cap), (x0, v0), (x1, v1), (x2, v2), (x3, v3)], [p], r', [(p, (X, o'))]⟩]) ⟨putD T dst r', setAll S [(p, (X, o'))]⟩) (hSp : At S p (X, o) := by exact At.f) [hf : Frz r r'] (hs : st1s cap = true := by first | rfl | assumption) (ht : noTup [(x0, v0), (x1, v1), (x2, v2), (x3, v3)] = true := by rfl) (hd : dstOk dst nt = true := by rfl) (hg : Grd ops T g ts := by first | exact .none | exact .met rfl rfl (by first | rfl | assumption)) : RGo P nt ops l Q (⟨dst, .call ⟨.value x, #[x0, x1, x2, x3], ats⟩, ty, pos, after, g⟩ :: rest) acc ⟨T, S⟩ := RGo.sg (W.callCO4 hx h0 h1 h2 h3 hSp h hs ht hf.h) hd hg k
theorem RGo.k5 {g : Option (Nat × Bool)} {ts : List Nat} {x0 : Operand} {v0 : AV} {x1 : Operand} {v1 : AV} {x2 : Operand} {v2 : AV} {x3 : Operand} {v3 : AV} {x4 : Operand} {v4 : AV} {x : Operand} {f : FuncId} {cap : List AV} {ats : Array TypeId} {r r' : AV} (hx : Rd none T x (.fn f cap) := by rfl) (h0 : Rd none T x0 v0 := by rfl) (h1 : Rd none T x1 v1 := by rfl) (h2 : Rd none T x2 v2 := by rfl) (h3 : Rd none T x3 v3 := by rfl) (h4 : Rd none T x4 v4 := by rfl) (h : PS P f (v0 :: v1 :: v2 :: v3 :: v4 :: cap) r) (k : RGo P nt ops l Q rest (acc ++ [⟨⟨dst, .call ⟨.value x, #[x0, x1, x2, x3, x4], ats⟩, ty, pos, after, g⟩, ts ++ tmpsOf [(x, .fn f cap), (x0, v0), (x1, v1), (x2, v2), (x3, v3), (x4, v4)], [], r', []⟩]) ⟨putD T dst r', S⟩) [hf : Frz r r'] (hs : st1s cap = true := by first | rfl | assumption) (ht : noTup [(x0, v0), (x1, v1), (x2, v2), (x3, v3), (x4, v4)] = true := by rfl) (hd : dstOk dst nt = true := by rfl) (hg : Grd ops T g ts := by first | exact .none | exact .met rfl rfl (by first | rfl | assumption)) : RGo P nt ops l Q (⟨dst, .call ⟨.value x, #[x0, x1, x2, x3, x4], ats⟩, ty, pos, after, g⟩ :: rest) acc ⟨T, S⟩ := RGo.pg (W.callC5 hx h0 h1 h2 h3 h4 h hs ht hf.h) hd hg k
theorem RGo.q5 {g : Option (Nat × Bool)} {ts : List Nat} {x0 : Operand} {v0 : AV} {x1 : Operand} {v1 : AV} {x2 : Operand} {v2 : AV} {x3 : Operand} {v3 : AV} {x4 : Operand} {v4 : AV} {x : Operand} {f : FuncId} {cap : List AV} {ats : Array TypeId} {r r' : AV} {X p : Nat} {o o' : AO} (hx : Rd none T x (.fn f cap) := by rfl) (h0 : Rd none T x0 v0 := by rfl) (h1 : Rd none T x1 v1 := by rfl) (h2 : Rd none T x2 v2 := by rfl) (h3 : Rd none T x3 v3 := by rfl) (h4 : Rd none T x4 v4 := by rfl) (h : PO P f (v0 :: v1 :: v2 :: v3 :: v4 :: cap) X o r o') (k : RGo P nt ops l Q rest (acc ++ [⟨⟨dst, .call ⟨.value x, #[x0, x1, x2, x3, x4], ats⟩, ty, pos, after, g⟩, ts ++ tmpsOf [(x, .fn f cap), (x0, v0), (x1, v1), (x2, v2), (x3, v3), (x4, v4)], [p], r', [(p, (X, o'))]⟩]) ⟨putD T dst r', setAll S [(p, (X, o'))]⟩) (hSp : At S p (X, o) := by exact At.f) [hf : Frz r r'] (hs : st1s cap = true := by first | rfl | assumption) (ht : noTup [(x0, v0), (x1, v1), (x2, v2), (x3, v3), (x4, v4)] = true := by rfl) (hd : dstOk dst nt = true := by rfl) (hg : Grd ops T g ts := by first | exact .none | exact .met rfl rfl (by first | rfl | assumption)) : RGo P nt ops l Q (⟨dst, .call ⟨.value x, #[x0, x1, x2, x3, x4], ats⟩, ty, pos, after, g⟩ :: rest) acc ⟨T, S⟩ := RGo.sg (W.callCO5 hx h0 h1 h2 h3 h4 hSp h hs ht hf.h) hd hg k
theorem RGo.c0 {g : Option (Nat × Bool)} {ts : List Nat}  {f : FuncId} {ats : Array TypeId} {r r' : AV}  (h : PS P f [] r) (k : RGo P nt ops l Q rest (acc ++ [⟨⟨dst, .call ⟨.value (.func f), #[], ats⟩, ty, pos, after, g⟩, ts ++ tmpsOf [], [], r', []⟩]) ⟨putD T dst r', S⟩) [hf : Frz r r'] (ht : noTup [] = true := by rfl) (hd : dstOk dst nt = true := by rfl) (hg : Grd ops T g ts := by first | exact .none | exact .met rfl rfl (by first | rfl | assumption)) : RGo P nt ops l Q (⟨dst, .call ⟨.value (.func f), #[], ats⟩, ty, pos, after, g⟩ :: rest) acc ⟨T, S⟩ := RGo.pg (W.callF0  h ht hf.h) hd hg k
theorem RGo.c1 {g : Option (Nat × Bool)} {ts : List Nat} {x0 : Operand} {v0 : AV} {f : FuncId} {ats : Array TypeId} {r r' : AV} (h0 : Rd none T x0 v0 := by rfl) (h : PS P f [v0] r) (k : RGo P nt ops l Q rest (acc ++ [⟨⟨dst, .call ⟨.value (.func f), #[x0], ats⟩, ty, pos, after, g⟩, ts ++ tmpsOf [(x0, v0)], [], r', []⟩]) ⟨putD T dst r', S⟩) [hf : Frz r r'] (ht : noTup [(x0, v0)] = true := by rfl) (hd : dstOk dst nt = true := by rfl) (hg : Grd ops T g ts := by first | exact .none | exact .met rfl rfl (by first | rfl | assumption)) : RGo P nt ops l Q (⟨dst, .call ⟨.value (.func f), #[x0], ats⟩, ty, pos, after, g⟩ :: rest) acc ⟨T, S⟩ := RGo.pg (W.callF1 h0 h ht hf.h) hd hg k
theorem RGo.c2 {g : Option (Nat × Bool)} {ts : List Nat} {x0 : Operand} {v0 : AV} {x1 : Operand} {v1 : AV} {f : FuncId} {ats : Array TypeId} {r r' : AV} (h0 : Rd none T x0 v0 := by rfl) (h1 : Rd none T x1 v1 := by rfl) (h : PS P f [v0, v1] r) (k : RGo P nt ops l Q rest (acc ++ [⟨⟨dst, .call ⟨.value (.func f), #[x0, x1], ats⟩, ty, pos, after, g⟩, ts ++ tmpsOf [(x0, v0), (x1, v1)], [], r', []⟩]) ⟨putD T dst r', S⟩) [hf : Frz r r'] (ht : noTup [(x0, v0), (x1, v1)] = true := by rfl) (hd : dstOk dst nt = true := by rfl) (hg : Grd ops T g ts := by first | exact .none | exact .met rfl rfl (by first | rfl | assumption)) : RGo P nt ops l Q (⟨dst, .call ⟨.value (.func f), #[x0, x1], ats⟩, ty, pos, after, g⟩ :: rest) acc ⟨T, S⟩ := RGo.pg (W.callF2 h0 h1 h ht hf.h) hd hg k
theorem RGo.c3 {g : Option (Nat × Bool)} {ts : List Nat} {x0 : Operand} {v0 : AV} {x1 : Operand} {v1 : AV} {x2 : Operand} {v2 : AV} {f : FuncId} {ats : Array TypeId} {r r' : AV} (h0 : Rd none T x0 v0 := by rfl) (h1 : Rd none T x1 v1 := by rfl) (h2 : Rd none T x2 v2 := by rfl) (h : PS P f [v0, v1, v2] r) (k : RGo P nt ops l Q rest (acc ++ [⟨⟨dst, .call ⟨.value (.func f), #[x0, x1, x2], ats⟩, ty, pos, after, g⟩, ts ++ tmpsOf [(x0, v0), (x1, v1), (x2, v2)], [], r', []⟩]) ⟨putD T dst r', S⟩) [hf : Frz r r'] (ht : noTup [(x0, v0), (x1, v1), (x2, v2)] = true := by rfl) (hd : dstOk dst nt = true := by rfl) (hg : Grd ops T g ts := by first | exact .none | exact .met rfl rfl (by first | rfl | assumption)) : RGo P nt ops l Q (⟨dst, .call ⟨.value (.func f), #[x0, x1, x2], ats⟩, ty, pos, after, g⟩ :: rest) acc ⟨T, S⟩ := RGo.pg (W.callF3 h0 h1 h2 h ht hf.h) hd hg k
theorem RGo.c4 {g : Option (Nat × Bool)} {ts : List Nat} {x0 : Operand} {v0 : AV} {x1 : Operand} {v1 : AV} {x2 : Operand} {v2 : AV} {x3 : Operand} {v3 : AV} {f : FuncId} {ats : Array TypeId} {r r' : AV} (h0 : Rd none T x0 v0 := by rfl) (h1 : Rd none T x1 v1 := by rfl) (h2 : Rd none T x2 v2 := by rfl) (h3 : Rd none T x3 v3 := by rfl) (h : PS P f [v0, v1, v2, v3] r) (k : RGo P nt ops l Q rest (acc ++ [⟨⟨dst, .call ⟨.value (.func f), #[x0, x1, x2, x3], ats⟩, ty, pos, after, g⟩, ts ++ tmpsOf [(x0, v0), (x1, v1), (x2, v2), (x3, v3)], [], r', []⟩]) ⟨putD T dst r', S⟩) [hf : Frz r r'] (ht : noTup [(x0, v0), (x1, v1), (x2, v2), (x3, v3)] = true := by rfl) (hd : dstOk dst nt = true := by rfl) (hg : Grd ops T g ts := by first | exact .none | exact .met rfl rfl (by first | rfl | assumption)) : RGo P nt ops l Q (⟨dst, .call ⟨.value (.func f), #[x0, x1, x2, x3], ats⟩, ty, pos, after, g⟩ :: rest) acc ⟨T, S⟩ := RGo.pg (W.callF4 h0 h1 h2 h3 h ht hf.h) hd hg k
theorem RGo.c5 {g : Option (Nat × Bool)} {ts : List Nat} {x0 : Operand} {v0 : AV} {x1 : Operand} {v1 : AV} {x2 : Operand} {v2 : AV} {x3 : Operand} {v3 : AV} {x4 : Operand} {v4 : AV} {f : FuncId} {ats : Array TypeId} {r r' : AV} (h0 : Rd none T x0 v0 := by rfl) (h1 : Rd none T x1 v1 := by rfl) (h2 : Rd none T x2 v2 := by rfl) (h3 : Rd none T x3 v3 := by rfl) (h4 : Rd none T x4 v4 := by rfl) (h : PS P f [v0, v1, v2, v3, v4] r) (k : RGo P nt ops l Q rest (acc ++ [⟨⟨dst, .call ⟨.value (.func f), #[x0, x1, x2, x3, x4], ats⟩, ty, pos, after, g⟩, ts ++ tmpsOf [(x0, v0), (x1, v1), (x2, v2), (x3, v3), (x4, v4)], [], r', []⟩]) ⟨putD T dst r', S⟩) [hf : Frz r r'] (ht : noTup [(x0, v0), (x1, v1), (x2, v2), (x3, v3), (x4, v4)] = true := by rfl) (hd : dstOk dst nt = true := by rfl) (hg : Grd ops T g ts := by first | exact .none | exact .met rfl rfl (by first | rfl | assumption)) : RGo P nt ops l Q (⟨dst, .call ⟨.value (.func f), #[x0, x1, x2, x3, x4], ats⟩, ty, pos, after, g⟩ :: rest) acc ⟨T, S⟩ := RGo.pg (W.callF5 h0 h1 h2 h3 h4 h ht hf.h) hd hg k
theorem RGo.c6 {g : Option (Nat × Bool)} {ts : List Nat} {x0 : Operand} {v0 : AV} {x1 : Operand} {v1 : AV} {x2 : Operand} {v2 : AV} {x3 : Operand} {v3 : AV} {x4 : Operand} {v4 : AV} {x5 : Operand} {v5 : AV} {f : FuncId} {ats : Array TypeId} {r r' : AV} (h0 : Rd none T x0 v0 := by rfl) (h1 : Rd none T x1 v1 := by rfl) (h2 : Rd none T x2 v2 := by rfl) (h3 : Rd none T x3 v3 := by rfl) (h4 : Rd none T x4 v4 := by rfl) (h5 : Rd none T x5 v5 := by rfl) (h : PS P f [v0, v1, v2, v3, v4, v5] r) (k : RGo P nt ops l Q rest (acc ++ [⟨⟨dst, .call ⟨.value (.func f), #[x0, x1, x2, x3, x4, x5], ats⟩, ty, pos, after, g⟩, ts ++ tmpsOf [(x0, v0), (x1, v1), (x2, v2), (x3, v3), (x4, v4), (x5, v5)], [], r', []⟩]) ⟨putD T dst r', S⟩) [hf : Frz r r'] (ht : noTup [(x0, v0), (x1, v1), (x2, v2), (x3, v3), (x4, v4), (x5, v5)] = true := by rfl) (hd : dstOk dst nt = true := by rfl) (hg : Grd ops T g ts := by first | exact .none | exact .met rfl rfl (by first | rfl | assumption)) : RGo P nt ops l Q (⟨dst, .call ⟨.value (.func f), #[x0, x1, x2, x3, x4, x5], ats⟩, ty, pos, after, g⟩ :: rest) acc ⟨T, S⟩ := RGo.pg (W.callF6 h0 h1 h2 h3 h4 h5 h ht hf.h) hd hg k
theorem RGo.o1 {g : Option (Nat × Bool)} {ts : List Nat} {x0 : Operand} {v0 : AV} {f : FuncId} {ats : Array TypeId} {r r' : AV} {X p : Nat} {o o' : AO} (h0 : Rd none T x0 v0 := by rfl) (h : PO P f [v0] X o r o') (k : RGo P nt ops l Q rest (acc ++ [⟨⟨dst, .call ⟨.value (.func f), #[x0], ats⟩, ty, pos, after, g⟩, ts ++ tmpsOf [(x0, v0)], [p], r', [(p, (X, o'))]⟩]) ⟨putD T dst r', setAll S [(p, (X, o'))]⟩) (hSp : At S p (X, o) := by exact At.f) [hf : Frz r r'] (ht : noTup [(x0, v0)] = true := by rfl) (hd : dstOk dst nt = true := by rfl) (hg : Grd ops T g ts := by first | exact .none | exact .met rfl rfl (by first | rfl | assumption)) : RGo P nt ops l Q (⟨dst, .call ⟨.value (.func f), #[x0], ats⟩, ty, pos, after, g⟩ :: rest) acc ⟨T, S⟩ := RGo.sg (W.callO1 h0 hSp h ht hf.h) hd hg k
theorem RGo.o2 {g : Option (Nat × Bool)} {ts : List Nat} {x0 : Operand} {v0 : AV} {x1 : Operand} {v1 : AV} {f : FuncId} {ats : Array TypeId} {r r' : AV} {X p : Nat} {o o' : AO} (h0 : Rd none T x0 v0 := by rfl) (h1 : Rd none T x1 v1 := by rfl) (h : PO P f [v0, v1] X o r o') (k : RGo P nt ops l Q rest (acc ++ [⟨⟨dst, .call ⟨.value (.func f), #[x0, x1], ats⟩, ty, pos, after, g⟩, ts ++ tmpsOf [(x0, v0), (x1, v1)], [p], r', [(p, (X, o'))]⟩]) ⟨putD T dst r', setAll S [(p, (X, o'))]⟩) (hSp : At S p (X, o) := by exact At.f) [hf : Frz r r'] (ht : noTup [(x0, v0), (x1, v1)] = true := by rfl) (hd : dstOk dst nt = true := by rfl) (hg : Grd ops T g ts := by first | exact .none | exact .met rfl rfl (by first | rfl | assumption)) : RGo P nt ops l Q (⟨dst, .call ⟨.value (.func f), #[x0, x1], ats⟩, ty, pos, after, g⟩ :: rest) acc ⟨T, S⟩ := RGo.sg (W.callO2 h0 h1 hSp h ht hf.h) hd hg k
theorem RGo.o3 {g : Option (Nat × Bool)} {ts : List Nat} {x0 : Operand} {v0 : AV} {x1 : Operand} {v1 : AV} {x2 : Operand} {v2 : AV} {f : FuncId} {ats : Array TypeId} {r r' : AV} {X p : Nat} {o o' : AO} (h0 : Rd none T x0 v0 := by rfl) (h1 : Rd none T x1 v1 := by rfl) (h2 : Rd none T x2 v2 := by rfl) (h : PO P f [v0, v1, v2] X o r o') (k : RGo P nt ops l Q rest (acc ++ [⟨⟨dst, .call ⟨.value (.func f), #[x0, x1, x2], ats⟩, ty, pos, after, g⟩, ts ++ tmpsOf [(x0, v0), (x1, v1), (x2, v2)], [p], r', [(p, (X, o'))]⟩]) ⟨putD T dst r', setAll S [(p, (X, o'))]⟩) (hSp : At S p (X, o) := by exact At.f) [hf : Frz r r'] (ht : noTup [(x0, v0), (x1, v1), (x2, v2)] = true := by rfl) (hd : dstOk dst nt = true := by rfl) (hg : Grd ops T g ts := by first | exact .none | exact .met rfl rfl (by first | rfl | assumption)) : RGo P nt ops l Q (⟨dst, .call ⟨.value (.func f), #[x0, x1, x2], ats⟩, ty, pos, after, g⟩ :: rest) acc ⟨T, S⟩ := RGo.sg (W.callO3 h0 h1 h2 hSp h ht hf.h) hd hg k
theorem RGo.o4 {g : Option (Nat × Bool)} {ts : List Nat} {x0 : Operand} {v0 : AV} {x1 : Operand} {v1 : AV} {x2 : Operand} {v2 : AV} {x3 : Operand} {v3 : AV} {f : FuncId} {ats : Array TypeId} {r r' : AV} {X p : Nat} {o o' : AO} (h0 : Rd none T x0 v0 := by rfl) (h1 : Rd none T x1 v1 := by rfl) (h2 : Rd none T x2 v2 := by rfl) (h3 : Rd none T x3 v3 := by rfl) (h : PO P f [v0, v1, v2, v3] X o r o') (k : RGo P nt ops l Q rest (acc ++ [⟨⟨dst, .call ⟨.value (.func f), #[x0, x1, x2, x3], ats⟩, ty, pos, after, g⟩, ts ++ tmpsOf [(x0, v0), (x1, v1), (x2, v2), (x3, v3)], [p], r', [(p, (X, o'))]⟩]) ⟨putD T dst r', setAll S [(p, (X, o'))]⟩) (hSp : At S p (X, o) := by exact At.f) [hf : Frz r r'] (ht : noTup [(x0, v0), (x1, v1), (x2, v2), (x3, v3)] = true := by rfl) (hd : dstOk dst nt = true := by rfl) (hg : Grd ops T g ts := by first | exact .none | exact .met rfl rfl (by first | rfl | assumption)) : RGo P nt ops l Q (⟨dst, .call ⟨.value (.func f), #[x0, x1, x2, x3], ats⟩, ty, pos, after, g⟩ :: rest) acc ⟨T, S⟩ := RGo.sg (W.callO4 h0 h1 h2 h3 hSp h ht hf.h) hd hg k
theorem RGo.o5 {g : Option (Nat × Bool)} {ts : List Nat} {x0 : Operand} {v0 : AV} {x1 : Operand} {v1 : AV} {x2 : Operand} {v2 : AV} {x3 : Operand} {v3 : AV} {x4 : Operand} {v4 : AV} {f : FuncId} {ats : Array TypeId} {r r' : AV} {X p : Nat} {o o' : AO} (h0 : Rd none T x0 v0 := by rfl) (h1 : Rd none T x1 v1 := by rfl) (h2 : Rd none T x2 v2 := by rfl) (h3 : Rd none T x3 v3 := by rfl) (h4 : Rd none T x4 v4 := by rfl) (h : PO P f [v0, v1, v2, v3, v4] X o r o') (k : RGo P nt ops l Q rest (acc ++ [⟨⟨dst, .call ⟨.value (.func f), #[x0, x1, x2, x3, x4], ats⟩, ty, pos, after, g⟩, ts ++ tmpsOf [(x0, v0), (x1, v1), (x2, v2), (x3, v3), (x4, v4)], [p], r', [(p, (X, o'))]⟩]) ⟨putD T dst r', setAll S [(p, (X, o'))]⟩) (hSp : At S p (X, o) := by exact At.f) [hf : Frz r r'] (ht : noTup [(x0, v0), (x1, v1), (x2, v2), (x3, v3), (x4, v4)] = true := by rfl) (hd : dstOk dst nt = true := by rfl) (hg : Grd ops T g ts := by first | exact .none | exact .met rfl rfl (by first | rfl | assumption)) : RGo P nt ops l Q (⟨dst, .call ⟨.value (.func f), #[x0, x1, x2, x3, x4], ats⟩, ty, pos, after, g⟩ :: rest) acc ⟨T, S⟩ := RGo.sg (W.callO5 h0 h1 h2 h3 h4 hSp h ht hf.h) hd hg k
theorem RGo.o6 {g : Option (Nat × Bool)} {ts : List Nat} {x0 : Operand} {v0 : AV} {x1 : Operand} {v1 : AV} {x2 : Operand} {v2 : AV} {x3 : Operand} {v3 : AV} {x4 : Operand} {v4 : AV} {x5 : Operand} {v5 : AV} {f : FuncId} {ats : Array TypeId} {r r' : AV} {X p : Nat} {o o' : AO} (h0 : Rd none T x0 v0 := by rfl) (h1 : Rd none T x1 v1 := by rfl) (h2 : Rd none T x2 v2 := by rfl) (h3 : Rd none T x3 v3 := by rfl) (h4 : Rd none T x4 v4 := by rfl) (h5 : Rd none T x5 v5 := by rfl) (h : PO P f [v0, v1, v2, v3, v4, v5] X o r o') (k : RGo P nt ops l Q rest (acc ++ [⟨⟨dst, .call ⟨.value (.func f), #[x0, x1, x2, x3, x4, x5], ats⟩, ty, pos, after, g⟩, ts ++ tmpsOf [(x0, v0), (x1, v1), (x2, v2), (x3, v3), (x4, v4), (x5, v5)], [p], r', [(p, (X, o'))]⟩]) ⟨putD T dst r', setAll S [(p, (X, o'))]⟩) (hSp : At S p (X, o) := by exact At.f) [hf : Frz r r'] (ht : noTup [(x0, v0), (x1, v1), (x2, v2), (x3, v3), (x4, v4), (x5, v5)] = true := by rfl) (hd : dstOk dst nt = true := by rfl) (hg : Grd ops T g ts := by first | exact .none | exact .met rfl rfl (by first | rfl | assumption)) : RGo P nt ops l Q (⟨dst, .call ⟨.value (.func f), #[x0, x1, x2, x3, x4, x5], ats⟩, ty, pos, after, g⟩ :: rest) acc ⟨T, S⟩ := RGo.sg (W.callO6 h0 h1 h2 h3 h4 h5 hSp h ht hf.h) hd hg k
end
section
variable {P : Program} {nt : Nat} {ops : Array Oper} {Q : Exit → St → Prop} {rest : List Oper} {T : List (Nat × AV)} {S : List Slot} {xs : List (Operand × AV)} {rS wS : List (Nat × Slot)} {v : AV} {op : Op} {ty : TypeId} {pos : String} {after : Array Edge} {dst : Option Tmp}
/-- A step that makes an object. -/
theorem AOps.goF {xs : Nat → List (Operand × AV)} {rS wS : Nat → List (Nat × Slot)} {v : Nat → AV} (k : ∀ X, AOps ro P nt ops Q rest ⟨putD T dst (v X), setAll ((X, .gone) :: S) (wS X)⟩) (h : ∀ X, Stp none P ⟨dst, op, ty, pos, after, none⟩ T ((X, .gone) :: S) (xs X) (rS X) (v X) (wS X) := by (intro X; first | (apply Stp.g_alloc; exact W.allocN .here (by first | exact .inl rfl | exact .inr rfl) (by first | (dsimp only [zAV, List.map]; try exact rfl) | exact rfl) (by exact rfl)) | (apply Stp.g_box; exact W.box rfl .here rfl))) (hd : dstOk dst nt = true := by rfl) : AOps ro P nt ops Q (⟨dst, op, ty, pos, after, none⟩ :: rest) ⟨T, S⟩ := AOps.rs fun X => AOps.s (h X) hd (k X)
end
section
variable {P : Program} {nt : Nat} {ops : Array Oper} {Q : Exit → St → Prop} {rest : List Oper} {T : List (Nat × AV)} {S : List Slot} {l ls : List AV} {ty t t' te : TypeId} {sz X p q : Nat} {x y : Operand} {pos : String} {after : Array Edge} {dst : Option Tmp}
theorem appB {m b : Nat} (h : m ≤ 1099511627776) (hb : b ≤ 128) : m * b ≤ 140737488355328 := Nat.le_trans (Nat.mul_le_mul h hb) (by decide)
theorem appM {m b : Nat} (h : m * b ≤ 140737488355328) (hb : 0 < b) : m ≤ maxLen := Nat.le_trans (Nat.le_trans (Nat.le_mul_of_pos_right m hb) h) (by decide)
/-- An append of a list that nobody writes: the row keeps its place. -/
theorem AOps.goA {m by_ : Nat} [TRo P t te sz by_] (k : ∀ Y, AOps ro P nt ops Q rest ⟨putD T dst (.sl Y 0 (m + ls.length)), S.set p (Y, .row te sz (l ++ ls))⟩) (hx : Rd none T x (.sl X 0 m) := by rfl) (hy : Rd none T y (.lst false t' sz ls) := by rfl) (hSp : At S p (X, .row te sz l) := by exact At.f) (hn : m = l.length := by first | rfl | assumption | omega | (simp; omega) | simp [*]) (hb : (m + ls.length) * by_ ≤ 140737488355328 := by first | assumption | exact appB (by first | assumption | omega | (simp; omega)) (by decide) | omega | (simp; omega)) (hby : 0 < by_ := by decide) (hd : dstOk dst nt = true := by rfl) : AOps ro P nt ops Q (⟨dst, .call ⟨.builtin .append, #[x, y], #[t, t]⟩, ty, pos, after, none⟩ :: rest) ⟨T, S⟩ := by
  subst hn
  refine AOps.rs fun Y => AOps.s (W.app (q := 0) (p := p + 1) (X := X) (Y := Y) hx hy .here (.next hSp) rfl hb (appM hb hby) (by simp)) hd (AOps.sub ?_ (k Y))
  · exact .cons _ (.refl _)
theorem RGo.goA {l0 : List Oper} {acc : List Eff} {m by_ Y : Nat} [TRo P t te sz by_] (k : RGo P nt ops l0 Q rest (acc ++ [⟨⟨dst, .call ⟨.builtin .append, #[x, y], #[t, t]⟩, ty, pos, after, none⟩, tmpsOf [(x, .sl X 0 m), (y, .lst false t' sz ls)], [q, p], .sl Y 0 (m + ls.length), [(q, (X, .used)), (p, (Y, .row te sz (l ++ ls)))]⟩]) ⟨putD T dst (.sl Y 0 (m + ls.length)), setAll S [(q, (X, .used)), (p, (Y, .row te sz (l ++ ls)))]⟩) (hx : Rd none T x (.sl X 0 m) := by rfl) (hy : Rd none T y (.lst false t' sz ls) := by rfl) (hSq : At S q (Y, .gone) := by exact At.f) (hSp : At S p (X, .row te sz l) := by exact At.f) (hn : m = l.length := by first | rfl | assumption | omega | (simp; omega) | simp [*]) (hb : (m + ls.length) * by_ ≤ 140737488355328 := by first | assumption | exact appB (by first | assumption | omega | (simp; omega)) (by decide) | omega | (simp; omega)) (hqp : q ≠ p := by decide) (hby : 0 < by_ := by decide) (hd : dstOk dst nt = true := by rfl) : RGo P nt ops l0 Q (⟨dst, .call ⟨.builtin .append, #[x, y], #[t, t]⟩, ty, pos, after, none⟩ :: rest) acc ⟨T, S⟩ := by
  subst hn
  exact RGo.s (W.app hx hy hSq hSp rfl hb (appM hb hby) hqp) hd k
/-- A literal of one element, the element as we say it. -/
theorem AOps.goL {zl : List Value} {ag : Bool} (v : AV) (k : AOps ro P nt ops Q rest ⟨putD T dst (.lst false te sz [v]), S⟩) [TEl P t te] [TZe P te zl] [TSize P te sz] [TAg P te ag] [hz : Frz v v] (h0 : Rd none T x v := by exact rfl) (hzs : zl.length = sz := by exact rfl) (hag : ag = true ∨ zl.length = 1 := by first | exact .inl rfl | exact .inr rfl) (hn : 1 * sz ≤ 16777216 := by decide) (hpos : 0 < 1 * sz := by decide) (hf : fillE sz (List.replicate 1 (zAV zl ag)) [(0, v)] = some [v] := by exact rfl) (hd : dstOk dst nt = true := by rfl) : AOps ro P nt ops Q (⟨dst, .buildSlice t 1 #[(0, x)], ty, pos, after, none⟩ :: rest) ⟨T, S⟩ :=
  AOps.p (W.litF1 h0 hzs hag hn hpos hf) hd k
theorem RGo.goL {l0 : List Oper} {acc : List Eff} {zl : List Value} {ag : Bool} (v : AV) (k : RGo P nt ops l0 Q rest (acc ++ [⟨⟨dst, .buildSlice t 1 #[(0, x)], ty, pos, after, none⟩, tmpsOf [(x, v)], [], .lst false te sz [v], []⟩]) ⟨putD T dst (.lst false te sz [v]), S⟩) [TEl P t te] [TZe P te zl] [TSize P te sz] [TAg P te ag] [hz : Frz v v] (h0 : Rd none T x v := by exact rfl) (hzs : zl.length = sz := by exact rfl) (hag : ag = true ∨ zl.length = 1 := by first | exact .inl rfl | exact .inr rfl) (hn : 1 * sz ≤ 16777216 := by decide) (hpos : 0 < 1 * sz := by decide) (hf : fillE sz (List.replicate 1 (zAV zl ag)) [(0, v)] = some [v] := by exact rfl) (hd : dstOk dst nt = true := by rfl) : RGo P nt ops l0 Q (⟨dst, .buildSlice t 1 #[(0, x)], ty, pos, after, none⟩ :: rest) acc ⟨T, S⟩ :=
  RGo.p (W.litF1 h0 hzs hag hn hpos hf) hd k
theorem AOps.g_lit {n : Nat} {ar : Array (Nat × Operand)} {st : St} {g : Option (Nat × Bool)} (k : AOps ro P nt ops Q (⟨dst, .buildSlice t n ar, ty, pos, after, g⟩ :: rest) st) : AOps ro P nt ops Q (⟨dst, .buildSlice t n ar, ty, pos, after, g⟩ :: rest) st := k
theorem RGo.g_lit {l0 : List Oper} {acc : List Eff} {n : Nat} {ar : Array (Nat × Operand)} {st : St} {g : Option (Nat × Bool)} (k : RGo P nt ops l0 Q (⟨dst, .buildSlice t n ar, ty, pos, after, g⟩ :: rest) acc st) : RGo P nt ops l0 Q (⟨dst, .buildSlice t n ar, ty, pos, after, g⟩ :: rest) acc st := k
theorem AOps.g_append {st : St} {g : Option (Nat × Bool)} (k : AOps ro P nt ops Q (⟨dst, .call ⟨.builtin .append, #[x, y], #[t, t]⟩, ty, pos, after, g⟩ :: rest) st) : AOps ro P nt ops Q (⟨dst, .call ⟨.builtin .append, #[x, y], #[t, t]⟩, ty, pos, after, g⟩ :: rest) st := k
theorem RGo.g_append {l0 : List Oper} {acc : List Eff} {st : St} {g : Option (Nat × Bool)} (k : RGo P nt ops l0 Q (⟨dst, .call ⟨.builtin .append, #[x, y], #[t, t]⟩, ty, pos, after, g⟩ :: rest) acc st) : RGo P nt ops l0 Q (⟨dst, .call ⟨.builtin .append, #[x, y], #[t, t]⟩, ty, pos, after, g⟩ :: rest) acc st := k
theorem AOps.g_callv {d : Nat} {xs : Array Operand} {ats : Array TypeId} {st : St} {g : Option (Nat × Bool)} (k : AOps ro P nt ops Q (⟨dst, .call ⟨.value (.tmp d), xs, ats⟩, ty, pos, after, g⟩ :: rest) st) : AOps ro P nt ops Q (⟨dst, .call ⟨.value (.tmp d), xs, ats⟩, ty, pos, after, g⟩ :: rest) st := k
theorem RGo.g_callv {l0 : List Oper} {acc : List Eff} {d : Nat} {xs : Array Operand} {ats : Array TypeId} {st : St} {g : Option (Nat × Bool)} (k : RGo P nt ops l0 Q (⟨dst, .call ⟨.value (.tmp d), xs, ats⟩, ty, pos, after, g⟩ :: rest) acc st) : RGo P nt ops l0 Q (⟨dst, .call ⟨.value (.tmp d), xs, ats⟩, ty, pos, after, g⟩ :: rest) acc st := k
theorem AOps.g_callf {f : FuncId} {xs : Array Operand} {ats : Array TypeId} {st : St} {g : Option (Nat × Bool)} (k : AOps ro P nt ops Q (⟨dst, .call ⟨.value (.func f), xs, ats⟩, ty, pos, after, g⟩ :: rest) st) : AOps ro P nt ops Q (⟨dst, .call ⟨.value (.func f), xs, ats⟩, ty, pos, after, g⟩ :: rest) st := k
theorem RGo.g_callf {l0 : List Oper} {acc : List Eff} {f : FuncId} {xs : Array Operand} {ats : Array TypeId} {st : St} {g : Option (Nat × Bool)} (k : RGo P nt ops l0 Q (⟨dst, .call ⟨.value (.func f), xs, ats⟩, ty, pos, after, g⟩ :: rest) acc st) : RGo P nt ops l0 Q (⟨dst, .call ⟨.value (.func f), xs, ats⟩, ty, pos, after, g⟩ :: rest) acc st := k
end
section
variable {P : Program} {nt : Nat} {ops : Array Oper} {Q : Exit → St → Prop} {l rest : List Oper} {acc : List Eff} {st : St} {op : Op} {ty : TypeId} {pos : String} {after : Array Edge} {dst : Option Tmp}
theorem AOps.gN (k : AOps ro P nt ops Q (⟨dst, op, ty, pos, after, none⟩ :: rest) st) : AOps ro P nt ops Q (⟨dst, op, ty, pos, after, none⟩ :: rest) st := k
theorem RGo.gN (k : RGo P nt ops l Q (⟨dst, op, ty, pos, after, none⟩ :: rest) acc st) : RGo P nt ops l Q (⟨dst, op, ty, pos, after, none⟩ :: rest) acc st := k
end
/-! ### loops and ends -/
theorem AWP.lp {P : Program} {nt : Nat} {Q : Exit → St → Prop} {c : Code} {st : St} {β : Type} (inv : β → St) (R : β → Prop) (μ : β → Nat) (b0 : β) (hR : R b0) (round : ∀ b, R b → AWP ro P nt c (andThen (fun st' => ∃ b', R b' ∧ μ b' < μ b ∧ st'.Le (inv b')) Q) (inv b)) (h0 : st.Le (inv b0) := by exact ⟨by exact Lk.f, by exact Sub.f⟩) : AWP ro P nt (.loop c) Q st := AWP.loopR inv R μ b0 hR h0 round
/-- The state as we say it. -/
theorem AWP.as {P : Program} {nt : Nat} {Q : Exit → St → Prop} {c : Code} {st : St} (T : List (Nat × AV)) (S : List Slot) (k : AWP ro P nt c Q ⟨T, S⟩) (h : st.Le ⟨T, S⟩ := by exact ⟨by exact Lk.f, by exact Sub.f⟩) : AWP ro P nt c Q st := AWP.weak h k
theorem AOps.as {P : Program} {nt : Nat} {ops : Array Oper} {Q : Exit → St → Prop} {rest : List Oper} {st : St} (T : List (Nat × AV)) (S : List Slot) (k : AOps ro P nt ops Q rest ⟨T, S⟩) (h : st.Le ⟨T, S⟩ := by exact ⟨by exact Lk.f, by exact Sub.f⟩) : AOps ro P nt ops Q rest st := AOps.weak h k
theorem lp_next {β : Type} {R : β → Prop} {μ : β → Nat} {m : Nat} {inv : β → St} {st : St} (b' : β) (hR : R b') (hμ : μ b' < m := by omega) (h0 : st.Le (inv b') := by exact ⟨by exact Lk.f, by exact Sub.f⟩) : ∃ b', R b' ∧ μ b' < m ∧ st.Le (inv b') := ⟨b', hR, hμ, h0⟩

theorem AWP.lp2 {P : Program} {nt : Nat} {Q : Exit → St → Prop} {c : Code} {st : St} {β0 β1 : Type} (inv : β0 → β1 → St) (R : β0 → β1 → Prop) (μ : β0 → β1 → Nat) (c0 : β0) (c1 : β1) (hR : R c0 c1) (round : ∀ b0 b1, R b0 b1 → AWP ro P nt c (andThen (fun st' => ∃ b0' b1', R b0' b1' ∧ μ b0' b1' < μ b0 b1 ∧ st'.Le (inv b0' b1')) Q) (inv b0 b1)) (h0 : st.Le (inv c0 c1) := by exact ⟨by exact Lk.f, by exact Sub.f⟩) : AWP ro P nt (.loop c) Q st :=
  AWP.loopR (β := β0 × β1) (fun b => inv b.1 b.2) (fun b => R b.1 b.2) (fun b => μ b.1 b.2) (c0, c1) hR h0 fun b hb => (round b.1 b.2 hb).mono fun e st' h => by
    cases e with
    | normal => obtain ⟨b0', b1', h1, h2, h3⟩ := h; exact ⟨(b0', b1'), h1, h2, h3⟩
    | _ => exact h
theorem lp_next2 {β0 β1 : Type} {R : β0 → β1 → Prop} {μ : β0 → β1 → Nat} {m : Nat} {inv : β0 → β1 → St} {st : St} (b0' : β0) (b1' : β1) (hR : R b0' b1') (hμ : μ b0' b1' < m := by omega) (h0 : st.Le (inv b0' b1') := by exact ⟨by exact Lk.f, by exact Sub.f⟩) : ∃ b0' b1', R b0' b1' ∧ μ b0' b1' < m ∧ st.Le (inv b0' b1') := ⟨b0', b1', hR, hμ, h0⟩
theorem AWP.lp3 {P : Program} {nt : Nat} {Q : Exit → St → Prop} {c : Code} {st : St} {β0 β1 β2 : Type} (inv : β0 → β1 → β2 → St) (R : β0 → β1 → β2 → Prop) (μ : β0 → β1 → β2 → Nat) (c0 : β0) (c1 : β1) (c2 : β2) (hR : R c0 c1 c2) (round : ∀ b0 b1 b2, R b0 b1 b2 → AWP ro P nt c (andThen (fun st' => ∃ b0' b1' b2', R b0' b1' b2' ∧ μ b0' b1' b2' < μ b0 b1 b2 ∧ st'.Le (inv b0' b1' b2')) Q) (inv b0 b1 b2)) (h0 : st.Le (inv c0 c1 c2) := by exact ⟨by exact Lk.f, by exact Sub.f⟩) : AWP ro P nt (.loop c) Q st :=
  AWP.loopR (β := β0 × β1 × β2) (fun b => inv b.1 b.2.1 b.2.2) (fun b => R b.1 b.2.1 b.2.2) (fun b => μ b.1 b.2.1 b.2.2) (c0, c1, c2) hR h0 fun b hb => (round b.1 b.2.1 b.2.2 hb).mono fun e st' h => by
    cases e with
    | normal => obtain ⟨b0', b1', b2', h1, h2, h3⟩ := h; exact ⟨(b0', b1', b2'), h1, h2, h3⟩
    | _ => exact h
theorem lp_next3 {β0 β1 β2 : Type} {R : β0 → β1 → β2 → Prop} {μ : β0 → β1 → β2 → Nat} {m : Nat} {inv : β0 → β1 → β2 → St} {st : St} (b0' : β0) (b1' : β1) (b2' : β2) (hR : R b0' b1' b2') (hμ : μ b0' b1' b2' < m := by omega) (h0 : st.Le (inv b0' b1' b2') := by exact ⟨by exact Lk.f, by exact Sub.f⟩) : ∃ b0' b1' b2', R b0' b1' b2' ∧ μ b0' b1' b2' < m ∧ st.Le (inv b0' b1' b2') := ⟨b0', b1', b2', hR, hμ, h0⟩
theorem AWP.lp4 {P : Program} {nt : Nat} {Q : Exit → St → Prop} {c : Code} {st : St} {β0 β1 β2 β3 : Type} (inv : β0 → β1 → β2 → β3 → St) (R : β0 → β1 → β2 → β3 → Prop) (μ : β0 → β1 → β2 → β3 → Nat) (c0 : β0) (c1 : β1) (c2 : β2) (c3 : β3) (hR : R c0 c1 c2 c3) (round : ∀ b0 b1 b2 b3, R b0 b1 b2 b3 → AWP ro P nt c (andThen (fun st' => ∃ b0' b1' b2' b3', R b0' b1' b2' b3' ∧ μ b0' b1' b2' b3' < μ b0 b1 b2 b3 ∧ st'.Le (inv b0' b1' b2' b3')) Q) (inv b0 b1 b2 b3)) (h0 : st.Le (inv c0 c1 c2 c3) := by exact ⟨by exact Lk.f, by exact Sub.f⟩) : AWP ro P nt (.loop c) Q st :=
  AWP.loopR (β := β0 × β1 × β2 × β3) (fun b => inv b.1 b.2.1 b.2.2.1 b.2.2.2) (fun b => R b.1 b.2.1 b.2.2.1 b.2.2.2) (fun b => μ b.1 b.2.1 b.2.2.1 b.2.2.2) (c0, c1, c2, c3) hR h0 fun b hb => (round b.1 b.2.1 b.2.2.1 b.2.2.2 hb).mono fun e st' h => by
    cases e with
    | normal => obtain ⟨b0', b1', b2', b3', h1, h2, h3⟩ := h; exact ⟨(b0', b1', b2', b3'), h1, h2, h3⟩
    | _ => exact h
theorem lp_next4 {β0 β1 β2 β3 : Type} {R : β0 → β1 → β2 → β3 → Prop} {μ : β0 → β1 → β2 → β3 → Nat} {m : Nat} {inv : β0 → β1 → β2 → β3 → St} {st : St} (b0' : β0) (b1' : β1) (b2' : β2) (b3' : β3) (hR : R b0' b1' b2' b3') (hμ : μ b0' b1' b2' b3' < m := by omega) (h0 : st.Le (inv b0' b1' b2' b3') := by exact ⟨by exact Lk.f, by exact Sub.f⟩) : ∃ b0' b1' b2' b3', R b0' b1' b2' b3' ∧ μ b0' b1' b2' b3' < m ∧ st.Le (inv b0' b1' b2' b3') := ⟨b0', b1', b2', b3', hR, hμ, h0⟩
theorem AWP.lp5 {P : Program} {nt : Nat} {Q : Exit → St → Prop} {c : Code} {st : St} {β0 β1 β2 β3 β4 : Type} (inv : β0 → β1 → β2 → β3 → β4 → St) (R : β0 → β1 → β2 → β3 → β4 → Prop) (μ : β0 → β1 → β2 → β3 → β4 → Nat) (c0 : β0) (c1 : β1) (c2 : β2) (c3 : β3) (c4 : β4) (hR : R c0 c1 c2 c3 c4) (round : ∀ b0 b1 b2 b3 b4, R b0 b1 b2 b3 b4 → AWP ro P nt c (andThen (fun st' => ∃ b0' b1' b2' b3' b4', R b0' b1' b2' b3' b4' ∧ μ b0' b1' b2' b3' b4' < μ b0 b1 b2 b3 b4 ∧ st'.Le (inv b0' b1' b2' b3' b4')) Q) (inv b0 b1 b2 b3 b4)) (h0 : st.Le (inv c0 c1 c2 c3 c4) := by exact ⟨by exact Lk.f, by exact Sub.f⟩) : AWP ro P nt (.loop c) Q st :=
  AWP.loopR (β := β0 × β1 × β2 × β3 × β4) (fun b => inv b.1 b.2.1 b.2.2.1 b.2.2.2.1 b.2.2.2.2) (fun b => R b.1 b.2.1 b.2.2.1 b.2.2.2.1 b.2.2.2.2) (fun b => μ b.1 b.2.1 b.2.2.1 b.2.2.2.1 b.2.2.2.2) (c0, c1, c2, c3, c4) hR h0 fun b hb => (round b.1 b.2.1 b.2.2.1 b.2.2.2.1 b.2.2.2.2 hb).mono fun e st' h => by
    cases e with
    | normal => obtain ⟨b0', b1', b2', b3', b4', h1, h2, h3⟩ := h; exact ⟨(b0', b1', b2', b3', b4'), h1, h2, h3⟩
    | _ => exact h
theorem lp_next5 {β0 β1 β2 β3 β4 : Type} {R : β0 → β1 → β2 → β3 → β4 → Prop} {μ : β0 → β1 → β2 → β3 → β4 → Nat} {m : Nat} {inv : β0 → β1 → β2 → β3 → β4 → St} {st : St} (b0' : β0) (b1' : β1) (b2' : β2) (b3' : β3) (b4' : β4) (hR : R b0' b1' b2' b3' b4') (hμ : μ b0' b1' b2' b3' b4' < m := by omega) (h0 : st.Le (inv b0' b1' b2' b3' b4') := by exact ⟨by exact Lk.f, by exact Sub.f⟩) : ∃ b0' b1' b2' b3' b4', R b0' b1' b2' b3' b4' ∧ μ b0' b1' b2' b3' b4' < m ∧ st.Le (inv b0' b1' b2' b3' b4') := ⟨b0', b1', b2', b3', b4', hR, hμ, h0⟩
theorem AWP.lp6 {P : Program} {nt : Nat} {Q : Exit → St → Prop} {c : Code} {st : St} {β0 β1 β2 β3 β4 β5 : Type} (inv : β0 → β1 → β2 → β3 → β4 → β5 → St) (R : β0 → β1 → β2 → β3 → β4 → β5 → Prop) (μ : β0 → β1 → β2 → β3 → β4 → β5 → Nat) (c0 : β0) (c1 : β1) (c2 : β2) (c3 : β3) (c4 : β4) (c5 : β5) (hR : R c0 c1 c2 c3 c4 c5) (round : ∀ b0 b1 b2 b3 b4 b5, R b0 b1 b2 b3 b4 b5 → AWP ro P nt c (andThen (fun st' => ∃ b0' b1' b2' b3' b4' b5', R b0' b1' b2' b3' b4' b5' ∧ μ b0' b1' b2' b3' b4' b5' < μ b0 b1 b2 b3 b4 b5 ∧ st'.Le (inv b0' b1' b2' b3' b4' b5')) Q) (inv b0 b1 b2 b3 b4 b5)) (h0 : st.Le (inv c0 c1 c2 c3 c4 c5) := by exact ⟨by exact Lk.f, by exact Sub.f⟩) : AWP ro P nt (.loop c) Q st :=
  AWP.loopR (β := β0 × β1 × β2 × β3 × β4 × β5) (fun b => inv b.1 b.2.1 b.2.2.1 b.2.2.2.1 b.2.2.2.2.1 b.2.2.2.2.2) (fun b => R b.1 b.2.1 b.2.2.1 b.2.2.2.1 b.2.2.2.2.1 b.2.2.2.2.2) (fun b => μ b.1 b.2.1 b.2.2.1 b.2.2.2.1 b.2.2.2.2.1 b.2.2.2.2.2) (c0, c1, c2, c3, c4, c5) hR h0 fun b hb => (round b.1 b.2.1 b.2.2.1 b.2.2.2.1 b.2.2.2.2.1 b.2.2.2.2.2 hb).mono fun e st' h => by
    cases e with
    | normal => obtain ⟨b0', b1', b2', b3', b4', b5', h1, h2, h3⟩ := h; exact ⟨(b0', b1', b2', b3', b4', b5'), h1, h2, h3⟩
    | _ => exact h
theorem lp_next6 {β0 β1 β2 β3 β4 β5 : Type} {R : β0 → β1 → β2 → β3 → β4 → β5 → Prop} {μ : β0 → β1 → β2 → β3 → β4 → β5 → Nat} {m : Nat} {inv : β0 → β1 → β2 → β3 → β4 → β5 → St} {st : St} (b0' : β0) (b1' : β1) (b2' : β2) (b3' : β3) (b4' : β4) (b5' : β5) (hR : R b0' b1' b2' b3' b4' b5') (hμ : μ b0' b1' b2' b3' b4' b5' < m := by omega) (h0 : st.Le (inv b0' b1' b2' b3' b4' b5') := by exact ⟨by exact Lk.f, by exact Sub.f⟩) : ∃ b0' b1' b2' b3' b4' b5', R b0' b1' b2' b3' b4' b5' ∧ μ b0' b1' b2' b3' b4' b5' < m ∧ st.Le (inv b0' b1' b2' b3' b4' b5') := ⟨b0', b1', b2', b3', b4', b5', hR, hμ, h0⟩
theorem AWP.lp7 {P : Program} {nt : Nat} {Q : Exit → St → Prop} {c : Code} {st : St} {β0 β1 β2 β3 β4 β5 β6 : Type} (inv : β0 → β1 → β2 → β3 → β4 → β5 → β6 → St) (R : β0 → β1 → β2 → β3 → β4 → β5 → β6 → Prop) (μ : β0 → β1 → β2 → β3 → β4 → β5 → β6 → Nat) (c0 : β0) (c1 : β1) (c2 : β2) (c3 : β3) (c4 : β4) (c5 : β5) (c6 : β6) (hR : R c0 c1 c2 c3 c4 c5 c6) (round : ∀ b0 b1 b2 b3 b4 b5 b6, R b0 b1 b2 b3 b4 b5 b6 → AWP ro P nt c (andThen (fun st' => ∃ b0' b1' b2' b3' b4' b5' b6', R b0' b1' b2' b3' b4' b5' b6' ∧ μ b0' b1' b2' b3' b4' b5' b6' < μ b0 b1 b2 b3 b4 b5 b6 ∧ st'.Le (inv b0' b1' b2' b3' b4' b5' b6')) Q) (inv b0 b1 b2 b3 b4 b5 b6)) (h0 : st.Le (inv c0 c1 c2 c3 c4 c5 c6) := by exact ⟨by exact Lk.f, by exact Sub.f⟩) : AWP ro P nt (.loop c) Q st :=
  AWP.loopR (β := β0 × β1 × β2 × β3 × β4 × β5 × β6) (fun b => inv b.1 b.2.1 b.2.2.1 b.2.2.2.1 b.2.2.2.2.1 b.2.2.2.2.2.1 b.2.2.2.2.2.2) (fun b => R b.1 b.2.1 b.2.2.1 b.2.2.2.1 b.2.2.2.2.1 b.2.2.2.2.2.1 b.2.2.2.2.2.2) (fun b => μ b.1 b.2.1 b.2.2.1 b.2.2.2.1 b.2.2.2.2.1 b.2.2.2.2.2.1 b.2.2.2.2.2.2) (c0, c1, c2, c3, c4, c5, c6) hR h0 fun b hb => (round b.1 b.2.1 b.2.2.1 b.2.2.2.1 b.2.2.2.2.1 b.2.2.2.2.2.1 b.2.2.2.2.2.2 hb).mono fun e st' h => by
    cases e with
    | normal => obtain ⟨b0', b1', b2', b3', b4', b5', b6', h1, h2, h3⟩ := h; exact ⟨(b0', b1', b2', b3', b4', b5', b6'), h1, h2, h3⟩
    | _ => exact h
theorem lp_next7 {β0 β1 β2 β3 β4 β5 β6 : Type} {R : β0 → β1 → β2 → β3 → β4 → β5 → β6 → Prop} {μ : β0 → β1 → β2 → β3 → β4 → β5 → β6 → Nat} {m : Nat} {inv : β0 → β1 → β2 → β3 → β4 → β5 → β6 → St} {st : St} (b0' : β0) (b1' : β1) (b2' : β2) (b3' : β3) (b4' : β4) (b5' : β5) (b6' : β6) (hR : R b0' b1' b2' b3' b4' b5' b6') (hμ : μ b0' b1' b2' b3' b4' b5' b6' < m := by omega) (h0 : st.Le (inv b0' b1' b2' b3' b4' b5' b6') := by exact ⟨by exact Lk.f, by exact Sub.f⟩) : ∃ b0' b1' b2' b3' b4' b5' b6', R b0' b1' b2' b3' b4' b5' b6' ∧ μ b0' b1' b2' b3' b4' b5' b6' < m ∧ st.Le (inv b0' b1' b2' b3' b4' b5' b6') := ⟨b0', b1', b2', b3', b4', b5', b6', hR, hμ, h0⟩
theorem Ends.ps {P : Program} {t : Nat} {Sf : List Slot} {st : St} {a r : AV} (e : a = r) (h : look st.T t = some a := by rfl) (ha : ntup a = true := by rfl) (hS : Sf.Sublist st.S := by exact Sub.f) : Ends P [.tmp t] Sf (fun r' S' => r' = r ∧ S' = []) st := Ends.plain h ha hS ⟨e, rfl⟩
theorem Ends.po {P : Program} {t X : Nat} {Sf : List Slot} {st : St} {a r : AV} {o o' : AO} (e : a = r) (e' : o = o') (h : look st.T t = some a := by rfl) (ha : ntup a = true := by rfl) (hS : ((X, o) :: Sf).Sublist st.S := by exact Sub.f) : Ends P [.tmp t] Sf (fun r' S' => r' = r ∧ S' = [(X, o')]) st := by subst e e'; exact Ends.plainS (S' := [(X, o)]) h ha hS ⟨rfl, rfl⟩

theorem CVs_id (S : List Slot) : ∀ as : List AV, CVs S as as S
  | [] => .nil
  | _ :: as => .cons (.cell .same) (CVs_id S as)
/-- The results as they stand. -/
theorem Ends.id {P : Program} {res : List ResultVar} {Sf : List Slot} {st : St} {rs : List AV} {r : AV} (e : packR rs = r) (h : ResVs P st res rs := by (repeat (first | exact .nil | refine .cons (.tmp (by rfl)) (by rfl) ?_ | refine .cons (.cell (by rfl) (by exact At.f) TAg.h TSize.h (by exact rfl) (by exact rfl)) (by rfl) ?_))) (hS : Sf.Sublist st.S := by exact Sub.f) : Ends P res Sf (fun r' S' => r' = r ∧ S' = []) st := ⟨rs, rs, st.S, [], h, CVs_id _ _, hS, e, rfl⟩
theorem Ends.idS {P : Program} {X : Nat} {o o' : AO} {res : List ResultVar} {Sf : List Slot} {st : St} {rs : List AV} {r : AV} (e : packR rs = r) (e' : o = o') (h : ResVs P st res rs := by (repeat (first | exact .nil | refine .cons (.tmp (by rfl)) (by rfl) ?_ | refine .cons (.cell (by rfl) (by exact At.f) TAg.h TSize.h (by exact rfl) (by exact rfl)) (by rfl) ?_))) (hS : ((X, o) :: Sf).Sublist st.S := by exact Sub.f) : Ends P res Sf (fun r' S' => r' = r ∧ S' = [(X, o')]) st := ⟨rs, rs, st.S, [(X, o)], h, CVs_id _ _, hS, e, by rw [e']⟩
/-- A guard that is met may be left out. -/
theorem AOps.met {P : Program} {nt : Nat} {ops : Array Oper} {Q : Exit → St → Prop} {rest : List Oper} {st : St} {op : Op} {ty : TypeId} {pos : String} {after : Array Edge} {dst : Option Tmp} {g : Nat} {b b' : Bool} {t : Nat} (k : AOps ro P nt ops Q (⟨dst, op, ty, pos, after, none⟩ :: rest) st) (ht : (ops[g]?).bind (·.dst) = some t := by rfl) (hv : look st.T t = some (.prim (.bool b')) := by rfl) (hb : b' = b := by first | rfl | assumption) : AOps ro P nt ops Q (⟨dst, op, ty, pos, after, some (g, b)⟩ :: rest) st := by
  intro m0 a w hr
  have h := k m0 a w hr
  have hy : yielded ops a.tmps g = some b := by
    obtain ⟨m, N, Z, h1, h2, h3, h4, h5, h6⟩ := hr
    obtain ⟨u, hu1, hu2⟩ := h6 t _ hv
    obtain ⟨⟨e, _⟩, _⟩ := hu2
    injection e with e
    subst e hb
    simp [yielded, ht, hu1]
  unfold wpListIn at h ⊢
  rw [if_pos (by simp [Region.wanted])] at h
  rw [if_pos (by simp [Region.wanted, hy])]
  exact h
structure All (p : Nat → Prop) : Prop where
  i ::
  h : ∀ X, p X
structure AllY (p : Nat → Prop) : Prop where
  i ::
  h : ∀ X, p X
section
variable {P : Program} {nt : Nat} {ops : Array Oper} {Q : Exit → St → Prop} {rest : List Oper} {T : List (Nat × AV)} {S : List Slot} {xs : List (Operand × AV)} {rS wS : List (Nat × Slot)} {v : AV} {op : Op} {ty : TypeId} {pos : String} {after : Array Edge} {dst : Option Tmp} {t t2 t' te : TypeId} {x y z : Operand} {g : Option (Nat × Bool)} {st : St} {c : Code} {l ls : List AV} {sz X p q : Nat}
theorem AOps.goF1 {xs : Nat → List (Operand × AV)} {rS wS : Nat → List (Nat × Slot)} {v : Nat → AV} (h : ∀ X, Stp none P ⟨dst, op, ty, pos, after, none⟩ T ((X, .gone) :: S) (xs X) (rS X) (v X) (wS X) := by (intro X; first | (apply Stp.g_alloc; exact W.allocN .here (by first | exact .inl rfl | exact .inr rfl) (by first | (dsimp only [zAV, List.map]; try exact rfl) | exact rfl) (by exact rfl)) | (apply Stp.g_box; exact W.box rfl .here rfl))) (hd : dstOk dst nt = true := by rfl) : (All fun X => AOps ro P nt ops Q rest ⟨putD T dst (v X), setAll ((X, .gone) :: S) (wS X)⟩) → AOps ro P nt ops Q (⟨dst, op, ty, pos, after, none⟩ :: rest) ⟨T, S⟩ := fun k => AOps.goF k.h h hd
theorem AOps.goA1 {m by_ : Nat} [TRo P t te sz by_] (hx : Rd none T x (.sl X 0 m) := by rfl) (hy : Rd none T y (.lst false t' sz ls) := by rfl) (hSp : At S p (X, .row te sz l) := by exact At.f) (hn : m = l.length := by first | rfl | assumption | omega | (simp; omega) | simp [*]) (hb : (m + ls.length) * by_ ≤ 140737488355328 := by first | assumption | exact appB (by first | assumption | omega | (simp; omega)) (by decide) | omega | (simp; omega)) (hby : 0 < by_ := by decide) (hd : dstOk dst nt = true := by rfl) : (AllY fun Y => AOps ro P nt ops Q rest ⟨putD T dst (.sl Y 0 (m + ls.length)), S.set p (Y, .row te sz (l ++ ls))⟩) → AOps ro P nt ops Q (⟨dst, .call ⟨.builtin .append, #[x, y], #[t, t]⟩, ty, pos, after, none⟩ :: rest) ⟨T, S⟩ := fun k => AOps.goA k.h hx hy hSp hn hb hby hd
end
section
variable {P : Program} {nt : Nat} {ops : Array Oper} {Q : Exit → St → Prop} {rest : List Oper} {T : List (Nat × AV)} {S : List Slot} {xs : List (Operand × AV)} {rS wS : List (Nat × Slot)} {v : AV} {op : Op} {ty : TypeId} {pos : String} {after : Array Edge} {dst : Option Tmp} {t t2 t' te : TypeId} {x y z : Operand} {g : Option (Nat × Bool)} {st : St} {c : Code} {l ls : List AV} {sz X p q : Nat}
theorem AOps.go_ (h : Stp none P ⟨dst, op, ty, pos, after, none⟩ T S xs rS v [] := by exact Stp.f0) (hd : dstOk dst nt = true := by rfl) : (AOps ro P nt ops Q rest ⟨putD T dst v, S⟩) → AOps ro P nt ops Q (⟨dst, op, ty, pos, after, none⟩ :: rest) ⟨T, S⟩ := fun k => AOps.go (k := k) (h := h) (hd := hd)
theorem AOps.goS_ (h : Stp none P ⟨dst, op, ty, pos, after, none⟩ T S xs rS v wS := by exact Stp.st) (hd : dstOk dst nt = true := by rfl) : (AOps ro P nt ops Q rest ⟨putD T dst v, setAll S wS⟩) → AOps ro P nt ops Q (⟨dst, op, ty, pos, after, none⟩ :: rest) ⟨T, S⟩ := fun k => AOps.goS (k := k) (h := h) (hd := hd)
theorem AOps.met_ {P : Program} {nt : Nat} {ops : Array Oper} {Q : Exit → St → Prop} {rest : List Oper} {st : St} {op : Op} {ty : TypeId} {pos : String} {after : Array Edge} {dst : Option Tmp} {g : Nat} {b b' : Bool} {t : Nat} (ht : (ops[g]?).bind (·.dst) = some t := by rfl) (hv : look st.T t = some (.prim (.bool b')) := by rfl) (hb : b' = b := by first | rfl | assumption) : (AOps ro P nt ops Q (⟨dst, op, ty, pos, after, none⟩ :: rest) st) → AOps ro P nt ops Q (⟨dst, op, ty, pos, after, some (g, b)⟩ :: rest) st := fun k => AOps.met (k := k) (ht := ht) (hv := hv) (hb := hb)
theorem AOps.goN_ {g : Nat} {b b' : Bool} {t : Nat} (ht : (ops[g]?).bind (·.dst) = some t := by rfl) (hv : look T t = some (.prim (.bool b')) := by rfl) (hb : b' = !b := by first | rfl | assumption | (simp only [Bool.not_true, Bool.not_false]; assumption)) (hd : dstOk dst nt = true := by rfl) : (AOps ro P nt ops Q rest ⟨putD T dst .dead, S⟩) → AOps ro P nt ops Q (⟨dst, op, ty, pos, after, some (g, b)⟩ :: rest) ⟨T, S⟩ := fun k => AOps.goN (k := k) (ht := ht) (hv := hv) (hb := hb) (hd := hd)
theorem AOps.goQ1_ {g : Nat} {b b' : Bool} {t : Nat} (ht : (ops[g]?).bind (·.dst) = some t := by rfl) (hv : look T t = some (.prim (.bool b')) := by rfl) (h : Stp (some [b' == b]) P ⟨dst, op, ty, pos, after, some (g, b)⟩ T S xs rS v [] := by exact Stp.f1) (hd : dstOk dst nt = true := by rfl) (hos : onceT xs = true := by exact rfl) : (AOps ro P nt ops Q rest ⟨putD T dst (.opt (b' == b) v), S⟩) → AOps ro P nt ops Q (⟨dst, op, ty, pos, after, some (g, b)⟩ :: rest) ⟨T, S⟩ := fun k => AOps.goQ1 (k := k) (ht := ht) (hv := hv) (h := h) (hd := hd) (hos := hos)
theorem AOps.goQ2_ {c1 : Bool} {g : Nat} {b b' : Bool} {t : Nat} (ht : (ops[g]?).bind (·.dst) = some t := by rfl) (hv : look T t = some (.opt c1 (.prim (.bool b'))) := by rfl) (h : Stp (some [c1, b' == b]) P ⟨dst, op, ty, pos, after, some (g, b)⟩ T S xs rS v [] := by exact Stp.f2) (hd : dstOk dst nt = true := by rfl) (hos : onceT xs = true := by exact rfl) : (AOps ro P nt ops Q rest ⟨putD T dst (.opt c1 (.opt (b' == b) v)), S⟩) → AOps ro P nt ops Q (⟨dst, op, ty, pos, after, some (g, b)⟩ :: rest) ⟨T, S⟩ := fun k => AOps.goQ2 (k := k) (ht := ht) (hv := hv) (h := h) (hd := hd) (hos := hos)
theorem AOps.goQ3_ {c1 c2 : Bool} {g : Nat} {b b' : Bool} {t : Nat} (ht : (ops[g]?).bind (·.dst) = some t := by rfl) (hv : look T t = some (.opt c1 (.opt c2 (.prim (.bool b')))) := by rfl) (h : Stp (some [c1, c2, b' == b]) P ⟨dst, op, ty, pos, after, some (g, b)⟩ T S xs rS v [] := by exact Stp.f3) (hd : dstOk dst nt = true := by rfl) (hos : onceT xs = true := by exact rfl) : (AOps ro P nt ops Q rest ⟨putD T dst (.opt c1 (.opt c2 (.opt (b' == b) v))), S⟩) → AOps ro P nt ops Q (⟨dst, op, ty, pos, after, some (g, b)⟩ :: rest) ⟨T, S⟩ := fun k => AOps.goQ3 (k := k) (ht := ht) (hv := hv) (h := h) (hd := hd) (hos := hos)
end
section
variable {P : Program} {nt : Nat} {ops : Array Oper} {Q : Exit → St → Prop} {rest : List Oper} {T : List (Nat × AV)} {S : List Slot} {xs : List (Operand × AV)} {rS wS : List (Nat × Slot)} {v : AV} {op : Op} {ty : TypeId} {pos : String} {after : Array Edge} {dst : Option Tmp} {t t2 t' te : TypeId} {x y z : Operand}  {st : St} {c : Code} {l : List Oper} {acc : List Eff}
theorem RGo.go_ {g : Option (Nat × Bool)} {ts : List Nat} (h : Stp none P ⟨dst, op, ty, pos, after, g⟩ T S xs rS v [] := by exact Stp.f0) (hd : dstOk dst nt = true := by rfl) (hg : Grd ops T g ts := by first | exact .none | exact .met rfl rfl (by first | rfl | assumption)) : (RGo P nt ops l Q rest (acc ++ [⟨⟨dst, op, ty, pos, after, g⟩, ts ++ tmpsOf xs, rS.map (·.1), v, []⟩]) ⟨putD T dst v, S⟩) → RGo P nt ops l Q (⟨dst, op, ty, pos, after, g⟩ :: rest) acc ⟨T, S⟩ := fun k => RGo.go (k := k) (h := h) (hd := hd) (hg := hg)
theorem RGo.goS_ {g : Option (Nat × Bool)} {ts : List Nat} (h : Stp none P ⟨dst, op, ty, pos, after, g⟩ T S xs rS v wS := by exact Stp.st) (hd : dstOk dst nt = true := by rfl) (hg : Grd ops T g ts := by first | exact .none | exact .met rfl rfl (by first | rfl | assumption)) : (RGo P nt ops l Q rest (acc ++ [⟨⟨dst, op, ty, pos, after, g⟩, ts ++ tmpsOf xs, rS.map (·.1), v, wS⟩]) ⟨putD T dst v, setAll S wS⟩) → RGo P nt ops l Q (⟨dst, op, ty, pos, after, g⟩ :: rest) acc ⟨T, S⟩ := fun k => RGo.goS (k := k) (h := h) (hd := hd) (hg := hg)
theorem RGo.goN_ {g : Nat} {b b' : Bool} {t : Nat} (ht : (ops[g]?).bind (·.dst) = some t := by rfl) (hv : look T t = some (.prim (.bool b')) := by rfl) (hb : b' = !b := by first | rfl | assumption | (simp only [Bool.not_true, Bool.not_false]; assumption)) (hd : dstOk dst nt = true := by rfl) : (RGo P nt ops l Q rest (acc ++ [⟨⟨dst, op, ty, pos, after, some (g, b)⟩, [t], [], .dead, []⟩]) ⟨putD T dst .dead, S⟩) → RGo P nt ops l Q (⟨dst, op, ty, pos, after, some (g, b)⟩ :: rest) acc ⟨T, S⟩ := fun k => RGo.goN (k := k) (ht := ht) (hv := hv) (hb := hb) (hd := hd)
theorem RGo.goQ1_ {g : Nat} {b b' : Bool} {t : Nat} (ht : (ops[g]?).bind (·.dst) = some t := by rfl) (hv : look T t = some (.prim (.bool b')) := by rfl) (h : Stp (some [b' == b]) P ⟨dst, op, ty, pos, after, some (g, b)⟩ T S xs rS v [] := by exact Stp.f1) (hd : dstOk dst nt = true := by rfl) (hos : onceT xs = true := by exact rfl) : (RGo P nt ops l Q rest (acc ++ [⟨⟨dst, op, ty, pos, after, some (g, b)⟩, t :: tmpsOf xs, rS.map (·.1), (.opt (b' == b) v), []⟩]) ⟨putD T dst (.opt (b' == b) v), S⟩) → RGo P nt ops l Q (⟨dst, op, ty, pos, after, some (g, b)⟩ :: rest) acc ⟨T, S⟩ := fun k => RGo.goQ1 (k := k) (ht := ht) (hv := hv) (h := h) (hd := hd) (hos := hos)
theorem RGo.goQ2_ {c1 : Bool} {g : Nat} {b b' : Bool} {t : Nat} (ht : (ops[g]?).bind (·.dst) = some t := by rfl) (hv : look T t = some (.opt c1 (.prim (.bool b'))) := by rfl) (h : Stp (some [c1, b' == b]) P ⟨dst, op, ty, pos, after, some (g, b)⟩ T S xs rS v [] := by exact Stp.f2) (hd : dstOk dst nt = true := by rfl) (hos : onceT xs = true := by exact rfl) : (RGo P nt ops l Q rest (acc ++ [⟨⟨dst, op, ty, pos, after, some (g, b)⟩, t :: tmpsOf xs, rS.map (·.1), (.opt c1 (.opt (b' == b) v)), []⟩]) ⟨putD T dst (.opt c1 (.opt (b' == b) v)), S⟩) → RGo P nt ops l Q (⟨dst, op, ty, pos, after, some (g, b)⟩ :: rest) acc ⟨T, S⟩ := fun k => RGo.goQ2 (k := k) (ht := ht) (hv := hv) (h := h) (hd := hd) (hos := hos)
theorem RGo.goQ3_ {c1 c2 : Bool} {g : Nat} {b b' : Bool} {t : Nat} (ht : (ops[g]?).bind (·.dst) = some t := by rfl) (hv : look T t = some (.opt c1 (.opt c2 (.prim (.bool b')))) := by rfl) (h : Stp (some [c1, c2, b' == b]) P ⟨dst, op, ty, pos, after, some (g, b)⟩ T S xs rS v [] := by exact Stp.f3) (hd : dstOk dst nt = true := by rfl) (hos : onceT xs = true := by exact rfl) : (RGo P nt ops l Q rest (acc ++ [⟨⟨dst, op, ty, pos, after, some (g, b)⟩, t :: tmpsOf xs, rS.map (·.1), (.opt c1 (.opt c2 (.opt (b' == b) v))), []⟩]) ⟨putD T dst (.opt c1 (.opt c2 (.opt (b' == b) v))), S⟩) → RGo P nt ops l Q (⟨dst, op, ty, pos, after, some (g, b)⟩ :: rest) acc ⟨T, S⟩ := fun k => RGo.goQ3 (k := k) (ht := ht) (hv := hv) (h := h) (hd := hd) (hos := hos)
theorem RGo.goR_ {g : Option (Nat × Bool)} {ts : List Nat} (h : Stp none P ⟨dst, op, ty, pos, after, g⟩ T S xs rS v wS := by first | (apply Stp.g_alloc; exact W.allocN (by exact At.f) (by first | exact .inl rfl | exact .inr rfl) (by first | (dsimp only [zAV, List.map]; try exact rfl) | exact rfl) (by exact rfl)) | (apply Stp.g_box; exact W.box rfl (by exact At.f) rfl)) (hd : dstOk dst nt = true := by rfl) (hg : Grd ops T g ts := by first | exact .none | exact .met rfl rfl (by first | rfl | assumption)) : (RGo P nt ops l Q rest (acc ++ [⟨⟨dst, op, ty, pos, after, g⟩, ts ++ tmpsOf xs, rS.map (·.1), v, wS⟩]) ⟨putD T dst v, setAll S wS⟩) → RGo P nt ops l Q (⟨dst, op, ty, pos, after, g⟩ :: rest) acc ⟨T, S⟩ := fun k => RGo.goR (k := k) (h := h) (hd := hd) (hg := hg)
end
section
variable {P : Program} {nt : Nat} {ops : Array Oper} {Q : Exit → St → Prop} {rest : List Oper} {T : List (Nat × AV)} {S : List Slot} {xs : List (Operand × AV)} {rS wS : List (Nat × Slot)} {v : AV} {op : Op} {ty : TypeId} {pos : String} {after : Array Edge} {dst : Option Tmp} {t t2 t' te : TypeId} {x y z : Operand}  {st : St} {c : Code} {l ls : List AV} {sz X p q : Nat}
theorem RGo.goA_ {l0 : List Oper} {acc : List Eff} {m by_ Y : Nat} [TRo P t te sz by_] (hx : Rd none T x (.sl X 0 m) := by rfl) (hy : Rd none T y (.lst false t' sz ls) := by rfl) (hSq : At S q (Y, .gone) := by exact At.f) (hSp : At S p (X, .row te sz l) := by exact At.f) (hn : m = l.length := by first | rfl | assumption | omega | (simp; omega) | simp [*]) (hb : (m + ls.length) * by_ ≤ 140737488355328 := by first | assumption | exact appB (by first | assumption | omega | (simp; omega)) (by decide) | omega | (simp; omega)) (hqp : q ≠ p := by decide) (hby : 0 < by_ := by decide) (hd : dstOk dst nt = true := by rfl) : (RGo P nt ops l0 Q rest (acc ++ [⟨⟨dst, .call ⟨.builtin .append, #[x, y], #[t, t]⟩, ty, pos, after, none⟩, tmpsOf [(x, .sl X 0 m), (y, .lst false t' sz ls)], [q, p], .sl Y 0 (m + ls.length), [(q, (X, .used)), (p, (Y, .row te sz (l ++ ls)))]⟩]) ⟨putD T dst (.sl Y 0 (m + ls.length)), setAll S [(q, (X, .used)), (p, (Y, .row te sz (l ++ ls)))]⟩) → RGo P nt ops l0 Q (⟨dst, .call ⟨.builtin .append, #[x, y], #[t, t]⟩, ty, pos, after, none⟩ :: rest) acc ⟨T, S⟩ := fun k => RGo.goA (k := k) (hx := hx) (hy := hy) (hSq := hSq) (hSp := hSp) (hn := hn) (hb := hb) (hqp := hqp) (hby := hby) (hd := hd)
end
section
variable {P : Program} {nt : Nat} {ops : Array Oper} {Q : Exit → St → Prop} {rest : List Oper} {T : List (Nat × AV)} {S : List Slot} {xs : List (Operand × AV)} {rS wS : List (Nat × Slot)} {v : AV} {op : Op} {ty : TypeId} {pos : String} {after : Array Edge} {dst : Option Tmp} {t t2 t' te : TypeId} {x y z : Operand} {g : Option (Nat × Bool)} {st : St} {c : Code} {l : List Oper} {acc : List Eff} {B : Prop} {gd : Nat × Bool}
theorem AOps.jN (k : B → AOps ro P nt ops Q (⟨dst, op, ty, pos, after, none⟩ :: rest) st) : B → AOps ro P nt ops Q (⟨dst, op, ty, pos, after, none⟩ :: rest) st := k
theorem AOps.jQ (k : B → AOps ro P nt ops Q (⟨dst, op, ty, pos, after, some gd⟩ :: rest) st) : B → AOps ro P nt ops Q (⟨dst, op, ty, pos, after, some gd⟩ :: rest) st := k
theorem AOps.j_store (k : B → AOps ro P nt ops Q (⟨dst, .store t x y, ty, pos, after, g⟩ :: rest) st) : B → AOps ro P nt ops Q (⟨dst, .store t x y, ty, pos, after, g⟩ :: rest) st := k
theorem AOps.j_alloc (k : B → AOps ro P nt ops Q (⟨dst, .alloc t, ty, pos, after, g⟩ :: rest) st) : B → AOps ro P nt ops Q (⟨dst, .alloc t, ty, pos, after, g⟩ :: rest) st := k
theorem AOps.j_box (k : B → AOps ro P nt ops Q (⟨dst, .box t x, ty, pos, after, g⟩ :: rest) st) : B → AOps ro P nt ops Q (⟨dst, .box t x, ty, pos, after, g⟩ :: rest) st := k
theorem AOps.j_append (k : B → AOps ro P nt ops Q (⟨dst, .call ⟨.builtin .append, #[x, y], #[t, t]⟩, ty, pos, after, g⟩ :: rest) st) : B → AOps ro P nt ops Q (⟨dst, .call ⟨.builtin .append, #[x, y], #[t, t]⟩, ty, pos, after, g⟩ :: rest) st := k
theorem RGo.jN (k : B → RGo P nt ops l Q (⟨dst, op, ty, pos, after, none⟩ :: rest) acc st) : B → RGo P nt ops l Q (⟨dst, op, ty, pos, after, none⟩ :: rest) acc st := k
theorem RGo.jQ (k : B → RGo P nt ops l Q (⟨dst, op, ty, pos, after, some gd⟩ :: rest) acc st) : B → RGo P nt ops l Q (⟨dst, op, ty, pos, after, some gd⟩ :: rest) acc st := k
theorem RGo.j_store (k : B → RGo P nt ops l Q (⟨dst, .store t x y, ty, pos, after, g⟩ :: rest) acc st) : B → RGo P nt ops l Q (⟨dst, .store t x y, ty, pos, after, g⟩ :: rest) acc st := k
theorem RGo.j_alloc (k : B → RGo P nt ops l Q (⟨dst, .alloc t, ty, pos, after, g⟩ :: rest) acc st) : B → RGo P nt ops l Q (⟨dst, .alloc t, ty, pos, after, g⟩ :: rest) acc st := k
theorem RGo.j_box (k : B → RGo P nt ops l Q (⟨dst, .box t x, ty, pos, after, g⟩ :: rest) acc st) : B → RGo P nt ops l Q (⟨dst, .box t x, ty, pos, after, g⟩ :: rest) acc st := k
theorem RGo.j_append (k : B → RGo P nt ops l Q (⟨dst, .call ⟨.builtin .append, #[x, y], #[t, t]⟩, ty, pos, after, g⟩ :: rest) acc st) : B → RGo P nt ops l Q (⟨dst, .call ⟨.builtin .append, #[x, y], #[t, t]⟩, ty, pos, after, g⟩ :: rest) acc st := k
end
/-- One operation of a walk that needs no word of ours. -/
theorem WO_ {A B : Prop} (h : B → A := by first | (apply AOps.jN; first | (apply AOps.j_store; exact AOps.goS_) | (apply AOps.j_alloc; exact AOps.goF1) | (apply AOps.j_box; exact AOps.goF1) | (apply AOps.j_append; exact AOps.goA1) | exact AOps.go_) | (apply AOps.jQ; first | exact AOps.met_ | exact AOps.goN_ | exact AOps.goQ1_ | exact AOps.goQ2_ | exact AOps.goQ3_)) : B → A := h
theorem WO {A B : Prop} (k : B) (h : B → A := by exact WO_) : A := h k
/-- One step between operations. -/
theorem WF_ {A B : Prop} (h : B → A := by first | exact AWP.seq | exact AWP.skip | exact AWP.block | exact AWP.exit | exact andThen_n | exact inB_n | exact andThen_e | exact inB_e | exact inB_ne rfl) : B → A := h
theorem WF {A B : Prop} (k : B) (h : B → A := by exact WF_) : A := h k
/-- One step behind a region. -/
theorem WN {A B : Prop} (k : B) (h : B → A := by first | exact andThen_n | exact inB_n | exact andThen_e | exact inB_e | exact inB_ne rfl) : A := h k
/-- One step of a walk that needs no word of ours. -/
theorem WK {A B : Prop} (k : B) (h : B → A := by first | exact WO_ | exact AOps.nil | exact WF_ | exact AWP.region) : A := h k
/-- One operation of a region that draws its order. -/
theorem RK {A B : Prop} (k : B) (h : B → A := by first | (apply RGo.jN; first | (apply RGo.j_store; exact RGo.goS_) | (apply RGo.j_append; exact RGo.goA_) | (apply RGo.j_alloc; exact RGo.goR_) | (apply RGo.j_box; exact RGo.goR_) | exact RGo.go_) | (apply RGo.jQ; first | (apply RGo.j_store; exact RGo.goS_) | (apply RGo.j_append; exact RGo.goA_) | (apply RGo.j_alloc; exact RGo.goR_) | (apply RGo.j_box; exact RGo.goR_) | exact RGo.go_ | exact RGo.goN_ | exact RGo.goQ1_ | exact RGo.goQ2_ | exact RGo.goQ3_)) : A := h k
end Go.Proofs.Ytfkppbkipbbmaaa

namespace Go.Proofs.Ytfkppbkipbbmaaa
set_option linter.unusedVariables false
set_option linter.unusedSimpArgs false
variable {ro : Option Nat}
open Go.RowKit

/-- What a call of yield does: from frame slots that J tells for the i-th round it goes to those of the next round, or says 'no more'. -/
def Yld (P : Program) (y : Value) (xs : List (List AV)) (J : Nat → List Slot → Prop) (Jx : List Slot → Prop) : Prop :=
  ∃ l, y = .func (.yield l) #[] #[] ∧ ∀ i vs, xs[i]? = some vs → ∀ Sl, J i Sl → ∀ (Si : List Slot) (m : Mem) (N : Nat) (Z : Zs) (us : List Value), Z.map (·.1) = Si ++ Sl → Good m m N Z [] → VTs m vs us [] →
    ∃ f tmps assign body, (Instr.yield l us.toArray).run P m.w = .ok (.round l f tmps assign body) m.w ∧ RoundIn (FW none) 0 P l f tmps assign body m.w fun e w' =>
      ∃ b Sl' m' N' Z', e = .returned (.bool b) ∧ m'.w = w' ∧ Z'.map (·.1) = Si ++ Sl' ∧ Good m m' N' Z' [] ∧ (b = true → J (i + 1) Sl') ∧ (b = false → Jx Sl')
/-- An iterator: it yields xs, one after the other. -/
def Itr (P : Program) (f : FuncId) (cap : List AV) (xs : List (List AV)) : Prop :=
  isFn P f = true ∧ ∀ y J Jx, Yld P y xs J Jx → ∀ Sl, J 0 Sl → Spec P f (.prim y :: cap) Sl fun _ S' => J xs.length S' ∨ Jx S'

theorem slots_split {α β : Type} {f : α → β} : ∀ {Z : List α} {A B : List β}, Z.map f = A ++ B → ∃ ZA ZB, Z = ZA ++ ZB ∧ ZA.map f = A ∧ ZB.map f = B
  | Z, [], B, h => ⟨[], Z, rfl, rfl, h⟩
  | [], a :: A, B, h => by simp at h
  | z :: Z, a :: A, B, h => by
    simp only [List.map_cons, List.cons_append, List.cons.injEq] at h
    obtain ⟨ZA, ZB, e, h1, h2⟩ := slots_split h.2
    exact ⟨z :: ZA, ZB, by simp [e], by simp [h.1, h1], h2⟩

section
variable {P : Program} {nt : Nat} {ops : Array Oper} {Q : Exit → St → Prop} {rest : List Oper} {T : List (Nat × AV)} {S Si Sl Sf : List Slot} {y : Value} {xs : List (List AV)} {J : Nat → List Slot → Prop} {Jx : List Slot → Prop}
variable {dst : Option Tmp} {ty : TypeId} {pos : String} {after : Array Edge} {x : Operand} {ys : List (Operand × AV)} {ats : Array TypeId} {i : Nat}
/-- A call of yield in an iterator's walk. -/
theorem AOps.yield (hY : Yld P y xs J Jx) (hJ : J i Sl) (hi : xs[i]? = some (ys.map (·.2))) (hx : ev T x = some (.prim y)) (has : Evs T ys) (ht : noTup ys = true) (hd : dstOk dst nt = true)
    (kt : ∀ Sl', J (i + 1) Sl' → AOps ro P nt ops Q rest ⟨putD T dst (.prim (.bool true)), Si ++ (Sl' ++ Sf)⟩) (kf : ∀ Sl', Jx Sl' → AOps ro P nt ops Q rest ⟨putD T dst (.prim (.bool false)), Si ++ (Sl' ++ Sf)⟩) :
    AOps ro P nt ops Q (⟨dst, .call ⟨.value x, (ys.map (·.1)).toArray, ats⟩, ty, pos, after, none⟩ :: rest) ⟨T, Si ++ (Sl ++ Sf)⟩ := by
  rintro m0 a w ⟨m, N, Z, rfl, h2, h3, h4⟩
  refine wpListIn_plain rfl fun K hK => ?_
  obtain ⟨l, rfl, hY⟩ := hY
  have hyv := (h4.ev hx).prim
  obtain ⟨Zi, Zr, rfl, hzi, hzr⟩ := slots_split (A := Si) (B := Sl ++ Sf) h2
  obtain ⟨Zl, Zf, rfl, hzl, hzf⟩ := slots_split hzr
  have hp : (Zi ++ (Zl ++ Zf)).Perm ((Zi ++ Zf) ++ Zl) := by
    rw [List.append_assoc]
    exact List.Perm.append_left _ List.perm_append_comm
  have hus : VTs m (ys.map (·.2)) (ys.map fun q => a.eval q.1) [] := vts_of (noTup_spec ht) fun q hq => h4.ev (has.all q hq)
  obtain ⟨f, tmps, assign, body, hrun, hR⟩ := hY i _ hi Sl hJ (Si ++ Sf) m N _ _ (by simp [hzi, hzf, hzl]) (h3.perm hp).self hus
  refine ⟨fun _ _ => trivial, ?_⟩
  have hexec : (Oper.semAt (FW ro).round a.eval ⟨dst, .call ⟨.value x, (ys.map (·.1)).toArray, ats⟩, ty, pos, after, none⟩).run P m.w = .ok (.round l f tmps assign body) m.w := by
    rw [Oper.semAt_eq _ _ _ (by simp)]
    simp only [execOp, resolve, hyv, Deferred.ofValue, invoke, Sem.run_bind, Sem.run_pure, Result.andThen_ok]
    rw [show (#[] : Array Value) ++ Array.map a.eval (ys.map (·.1)).toArray = (ys.map fun q => a.eval q.1).toArray from by simp [Function.comp_def]]
    exact hrun
  rw [hexec]
  refine ⟨fun h => (by simp [FW, Fence.wide] at h), RoundIn.mono (F := FW ro) (n := 0 - 1) hR fun e w' he => ?_⟩
  obtain ⟨b, Sl', m', N', Z', rfl, rfl, hm, G', kT, kF⟩ := he
  obtain ⟨Za, Zl', rfl, hza, hzl'⟩ := slots_split hm
  obtain ⟨Zi', Zf', rfl, hzi', hzf'⟩ := slots_split hza
  have hp' : ((Zi' ++ Zf') ++ Zl').Perm (Zi' ++ (Zl' ++ Zf')) := by
    rw [List.append_assoc]
    exact List.Perm.append_left _ List.perm_append_comm
  refine hK _ _ ?_
  have hrel : Rel nt m0 ⟨putD T dst (.prim (.bool b)), Si ++ (Sl' ++ Sf)⟩ (a.put dst (.bool b)) m'.w :=
    ⟨m', N', _, rfl, by simp [hzi', hzf', hzl'], (h3.after G').perm hp', (h4.mono G'.le).put (dstOk_lt hd) (vv_prim _)⟩
  cases b with
  | true => exact kt Sl' (kT rfl) m0 _ _ hrel
  | false => exact kf Sl' (kF rfl) m0 _ _ hrel

/-! ### the loop's record -/
theorem Good.newRaw {m0 m : Mem} {N : Nat} {R : Zs} {ex : List Nat} (G : Good m0 m N R ex) (o : Obj) (m' : Mem) (hm' : m' = ⟨m.μ, fun y => m.U y ∨ y = N, m.w.alloc o, m.F⟩) :
    Good m0 m' (N + 1) (((N, .raw m.w.heap.size o), [m.w.heap.size]) :: R) ex ∧ m.Le m' := by
  subst hm'
  have hle : m.Le ⟨m.μ, fun y => m.U y ∨ y = N, m.w.alloc o, m.F⟩ := ⟨fun y h => .inl h, fun _ _ _ h => h, fun b hb => ⟨hb, Below.heap_alloc _ _ _ (G.frz b hb)⟩⟩
  refine ⟨Good.swap (zs := []) (zs' := [((N, .raw m.w.heap.size o), [m.w.heap.size])]) (R := R) (ex := ex) (ex' := ex) G hle (by omega) (fun y _ _ => rfl) (fun b hb _ _ => Below.heap_alloc _ _ _ hb) ?_ ?_ ?_ ?_ ?_ ?_ ?_ rfl rfl rfl (by simp), hle⟩
  · intro z hz
    simp only [List.mem_singleton] at hz
    subst hz
    exact ⟨rfl, .inr rfl, World.alloc_heap_new _ _⟩
  · refine List.nodup_append.2 ⟨by simp [Zs.own], (List.nodup_append.1 G.own).2.1, fun b hb c hc e => ?_⟩
    simp only [Zs.own, List.flatMap_cons, List.flatMap_nil, List.append_nil, List.mem_singleton] at hb
    have := (G.blk c (by simp [hc])).1
    omega
  · intro b hb
    simp only [Zs.own, List.flatMap_cons, List.flatMap_nil, List.append_nil, List.mem_append, List.mem_singleton] at hb
    rcases hb with rfl | hb
    · exact ⟨by simp, fun h => Nat.lt_irrefl _ (G.frz _ h), .inr (.inr (Nat.le_refl _))⟩
    · have := G.blk b (by simp [hb])
      exact ⟨by have := this.1; simp; omega, this.2, .inr (.inl hb)⟩
  · intro b hb
    exact ⟨by have := G.frz b hb; simp; omega, .inl hb⟩
  · simp [Zs.keys]
  · intro y hy
    simp only [Zs.keys, List.map_cons, List.map_nil, List.mem_singleton] at hy
    subst hy
    exact ⟨by omega, .inr (Nat.le_refl _)⟩
  · intro y hy
    rcases hy with hy | rfl
    · have := G.usedN y hy; exact ⟨by omega, .inl hy⟩
    · exact ⟨by omega, .inr (.inr (Nat.le_refl _))⟩
/-- A new block that is frozen at once. -/
theorem Good.newFrz {m0 m : Mem} {N : Nat} {R : Zs} {ex : List Nat} (G : Good m0 m N R ex) (o : Obj) (m' : Mem) (hm' : m' = ⟨m.μ, m.U, m.w.alloc o, fun b => m.F b ∨ b = m.w.heap.size⟩) :
    Good m0 m' N R ex ∧ m.Le m' := by
  subst hm'
  have hle : m.Le ⟨m.μ, m.U, m.w.alloc o, fun b => m.F b ∨ b = m.w.heap.size⟩ := ⟨fun y h => h, fun _ _ _ h => h, fun b hb => ⟨.inl hb, Below.heap_alloc _ _ _ (G.frz b hb)⟩⟩
  refine ⟨Good.swap (zs := []) (zs' := []) (R := R) (ex := ex) (ex' := ex) G hle (by omega) (fun y _ _ => rfl) (fun b hb _ _ => Below.heap_alloc _ _ _ hb) (fun z hz => by cases hz) ?_ ?_ ?_ (by simp [Zs.keys]) (fun y hy => by simp [Zs.keys] at hy) ?_ rfl rfl rfl (by simp), hle⟩
  · simpa [Zs.own] using (List.nodup_append.1 G.own).2.1
  · intro b hb
    simp only [Zs.own, List.flatMap_nil, List.nil_append] at hb
    have := G.blk b (by simp [hb])
    refine ⟨by have := this.1; simp; omega, ?_, .inr (.inl hb)⟩
    rintro (h | h)
    · exact this.2 h
    · have := this.1; omega
  · intro b hb
    rcases hb with hb | rfl
    · exact ⟨by have := G.frz b hb; simp; omega, .inl hb⟩
    · exact ⟨by simp, .inr (.inr (.inr (Nat.le_refl _)))⟩
  · intro y hy
    exact ⟨G.usedN y hy, .inl hy⟩
theorem Good.setRaw {m0 m : Mem} {N X b : Nat} {o : Obj} {bs : List Nat} {R : Zs} {ex : List Nat} (G : Good m0 m N (((X, .raw b o), bs) :: R) ex) (o' : Obj) (m' : Mem) (hm' : m' = { m with w := m.w.putObj b o' }) :
    Good m0 m' N (((X, .raw b o'), bs) :: R) ex ∧ m.Le m' := by
  subst hm'
  obtain ⟨rfl, hU, hb⟩ := G.obj _ (List.mem_cons_self ..)
  have hbk := G.blk b (by simp [Zs.own])
  have hle : m.Le { m with w := m.w.putObj b o' } := ⟨fun y h => h, fun _ _ _ h => h, fun c hc => ⟨hc, World.putObj_heap_other (by rintro rfl; exact hbk.2 hc)⟩⟩
  have own := G.own
  refine ⟨Good.swap (zs := [((X, .raw b o), [b])]) (zs' := [((X, .raw b o'), [b])]) (R := R) (ex := ex) (ex' := ex) G hle (by omega) (fun y _ _ => rfl) (fun c _ hc _ => World.putObj_heap_other (by simpa [Zs.own] using hc)) ?_ ?_ ?_ ?_ (by simp [Zs.keys]) ?_ ?_ rfl rfl rfl (by simp), hle⟩
  · intro z hz
    simp only [List.mem_singleton] at hz
    subst hz
    exact ⟨rfl, hU, World.putObj_heap_same hbk.1⟩
  · have hp : (Zs.own (((X, AO.raw b o), [b]) :: R) ++ ex).Perm (R.own ++ ([b] ++ ex)) := by
      rw [own_cons, List.append_assoc]
      refine List.perm_append_comm.trans ?_
      rw [List.append_assoc]
      exact List.Perm.append_left _ List.perm_append_comm
    have := (List.nodup_append.1 (hp.nodup_iff.1 own)).2.1
    simpa [Zs.own] using this
  · intro c hc
    simp only [Zs.own, List.flatMap_cons, List.flatMap_nil, List.append_nil, List.mem_append, List.mem_singleton] at hc
    have hk := G.blk c (by simp only [own_cons, List.mem_append, List.mem_singleton]; rcases hc with h | h <;> simp [h])
    exact ⟨by simpa using hk.1, hk.2, by rcases hc with h | h <;> simp [Zs.own, h]⟩
  · intro c hc
    exact ⟨by simpa using G.frz c hc, .inl hc⟩
  · intro y hy
    simp only [Zs.keys, List.map_cons, List.map_nil, List.mem_singleton] at hy ⊢
    subst hy
    exact ⟨G.keyN y (by simp [Zs.keys]), .inl rfl⟩
  · intro y hy
    exact ⟨G.usedN y hy, .inl hy⟩
/-- A note of what some values read as. -/
theorem Good.note {m0 m : Mem} {N : Nat} {R : Zs} {ex : List Nat} (G : Good m0 m N R ex) (K : AV → Value → Prop) (hK : ∀ v u, K v u → VV m v u []) (m' : Mem) (hm' : m' = { m with U := fun y => m.U y ∨ y = N }) :
    Good m0 m' (N + 1) (((N, .tv K), []) :: R) ex ∧ m.Le m' := by
  subst hm'
  have hle : m.Le { m with U := fun y => m.U y ∨ y = N } := ⟨fun y h => .inl h, fun _ _ _ h => h, fun b hb => ⟨hb, rfl⟩⟩
  refine ⟨Good.one (zs := []) (zs' := [((N, .tv K), [])]) (R := R) G _ (N + 1) rfl rfl hle (by omega) (fun y _ hy => rfl) ?_ rfl (by simp [Zs.keys]) ?_ ?_, hle⟩
  · intro z hz
    simp only [List.mem_singleton] at hz
    subst hz
    exact ⟨rfl, .inr rfl, fun v u h => (hK v u h).mono hle (by simp)⟩
  · intro y hy
    simp only [Zs.keys, List.map_cons, List.map_nil, List.mem_singleton] at hy
    subst hy
    exact ⟨by omega, .inr (Nat.le_refl _)⟩
  · intro y hy
    rcases hy with hy | rfl
    · have := G.usedN y hy; exact ⟨by omega, .inl hy⟩
    · exact ⟨by omega, .inr (.inr (Nat.le_refl _))⟩
end

section
variable {P : Program} {nt : Nat} {m0 m : Mem}
theorem Rel.setRaw {T : List (Nat × AV)} {pre G : List Slot} {X l : Nat} {o o' : Obj} {a : Act} {w : World} (h : Rel nt m0 ⟨T, pre ++ (X, .raw l o) :: G⟩ a w) : w.heap[l]? = some o ∧ Rel nt m0 ⟨T, pre ++ (X, .raw l o') :: G⟩ a (w.putObj l o') := by
  obtain ⟨m, N, Z, rfl, h2, h3, h4⟩ := h
  obtain ⟨Zp, Zr, rfl, hzp, hzr⟩ := slots_split (A := pre) (B := (X, .raw l o) :: G) h2
  cases Zr with
  | nil => simp at hzr
  | cons z Zg =>
    simp only [List.map_cons, List.cons.injEq] at hzr
    obtain ⟨⟨x, ob⟩, bs⟩ := z
    obtain ⟨hz, hzg⟩ := hzr
    simp only at hz
    injection hz with hz1 hz2
    subst hz1 hz2
    have G1 := h3.perm List.perm_middle
    have hO := G1.obj _ (List.mem_cons_self ..)
    obtain ⟨G2, hle⟩ := G1.setRaw o' _ rfl
    exact ⟨hO.2.2, _, N, Zp ++ ((x, .raw l o'), bs) :: Zg, rfl, by simp [hzp, hzg], G2.perm List.perm_middle.symm, h4.mono hle⟩
/-- The round's own temporaries. -/
def zipT : List (Nat × AV) → List Nat → List AV → List (Nat × AV)
  | T, d :: ds, v :: vs => zipT ((d, v) :: T) ds vs
  | T, _, _ => T
theorem TRel.zip : ∀ {ps : List Nat} {vs : List AV} {us : List Value} {T : List (Nat × AV)} {tm : Array Value}, TRel m0 m nt T { tmps := tm, defers := [] } → VTs m vs us [] → (∀ d ∈ ps, d < nt) → TRel m0 m nt (zipT T ps vs) { tmps := (ps.zip us).foldl (fun t q => t.setIfInBounds q.1 q.2) tm, defers := [] }
  | [], vs, us, T, tm, h, hv, hd => by cases vs <;> exact h
  | d :: ps, [], us, T, tm, h, hv, hd => by obtain ⟨rfl, _⟩ := hv; exact h
  | d :: ps, v :: vs, us, T, tm, h, hv, hd => by
    obtain ⟨u, us', b1, b2, rfl, e, h1, h2⟩ := (VTs_cons hv.ntup).1 hv
    obtain ⟨rfl, rfl⟩ : b1 = [] ∧ b2 = [] := by simpa using e.symm
    have h3 := h.put (dst := some d) (fun e he => by cases he; exact hd d (by simp)) h1
    exact TRel.zip (T := (d, v) :: T) h3 h2 fun d hd' => hd d (by simp [hd'])
def asgQ (F1 F2 : List Slot) (K : St → Prop) : Exit → St → Prop
  | .normal, st => ∃ pre, (pre ++ F1).Sublist st.S ∧ K ⟨st.T, pre ++ F2⟩
  | _, _ => False
def rndQ (P : Program) (nt : Nat) (Q : Exit → St → Prop) (T : List (Nat × AV)) (Sf : List Slot) (nxt : List Slot → Prop) (F : List Slot) : Exit → St → Prop
  | .normal, st => ∃ pre, (pre ++ F).Sublist st.S ∧ nxt pre
  | .ret, st => ∃ pre, (pre ++ F).Sublist st.S ∧ AWP none P nt .ret Q ⟨T, pre ++ Sf⟩
  | .exit id, st => ∃ pre, (pre ++ F).Sublist st.S ∧ AWP none P nt (.exit id) Q ⟨T, pre ++ Sf⟩
  | _, _ => False
/-- A loop over an iterator. -/
theorem AWP.rangeF {β : Type} {g : Operand} {ps : Array Tmp} {assign body : Code} {Q : Exit → St → Prop} {T : List (Nat × AV)} {S Sf : List Slot} {gf : FuncId} {cap : List AV} {xs : List (List AV)} (hI : Itr P gf cap xs) (inv : β → List Slot) (R : Nat → β → Prop) (b0 : β) (hR : R 0 b0)
    (hround : ∀ (i : Nat) vs b l F1 F2, xs[i]? = some vs → R i b → AWP (some l) P nt assign (asgQ F1 F2 fun st => AWP (some l) P nt body (rndQ P nt Q T Sf (fun pre => ∃ b', R (i + 1) b' ∧ pre = inv b') F2) st) ⟨zipT T ps.toList vs, inv b ++ F1⟩)
    (hdone : ∀ b, R xs.length b → Q .normal ⟨T, inv b ++ Sf⟩)
    (hg : ev T g = some (.fn gf cap)) (hs : st1s cap = true) (hps : ps.toList.all (Nat.blt · nt) = true) (hlen : ∀ vs ∈ xs, vs.length = ps.size) (hS : (inv b0 ++ Sf).Sublist S) : AWP none P nt (.rangeFunc g ps assign body) Q ⟨T, S⟩ := by
  intro m0 a w hr
  obtain ⟨m, N, Z, rfl, h2, h3, h4⟩ := hr.sub hS
  obtain ⟨cs, e1, hcap⟩ := h4.ev hg
  injection e1 with e1
  refine wpIn_rangeFunc ?_
  intro fn _
  obtain ⟨rec, hrec⟩ : ∃ rec : LoopState → Option Code → Loop, rec = fun st pe => { state := st, pending := pe, fn, tmps := a.tmps, params := ps, assign, body, defers := m.w.heap.size } := ⟨_, rfl⟩
  -- the block for the deferred calls, the record, and a note of what the temporaries hold
  obtain ⟨G1, hle1⟩ := h3.newFrz (.deferred (some [])) _ rfl
  obtain ⟨G2, hle2⟩ := G1.newRaw (.loop (rec .ready none)) _ rfl
  have hle12 := hle1.trans hle2
  obtain ⟨m2, hm2⟩ : ∃ m2 : Mem, (⟨m.μ, fun y => m.U y ∨ y = N, (m.w.alloc (.deferred (some []))).alloc (.loop (rec .ready none)), fun b => m.F b ∨ b = m.w.heap.size⟩ : Mem) = m2 := ⟨_, rfl⟩
  have hw2 : (m.w.alloc (.deferred (some []))).alloc (.loop (rec .ready none)) = m2.w := by rw [← hm2]
  have G2' : Good m0 m2 (N + 1) (((N, .raw (m.w.heap.size + 1) (.loop (rec .ready none))), [m.w.heap.size + 1]) :: Z) [] := by
    rw [← hm2]
    have := G2
    simp only [World.size_alloc] at this
    exact this
  have hle : m.Le m2 := by rw [← hm2]; exact hle12
  have hV2 : ∀ d v, look T d = some v → ∃ u, a.tmps[d]? = some u ∧ VV m2 v u [] := (h4.mono hle).2.2
  obtain ⟨K, hK⟩ : ∃ K : AV → Value → Prop, K = fun v u => ∃ d, look T d = some v ∧ a.tmps[d]? = some u := ⟨_, rfl⟩
  obtain ⟨G3, hle3⟩ := G2'.note K (fun v u h => by
    rw [hK] at h
    obtain ⟨d, h5, h6⟩ := h
    obtain ⟨u', h7, h8⟩ := hV2 d v h5
    rw [h6] at h7
    injection h7 with h7
    rw [h7]; exact h8) _ rfl
  obtain ⟨m3, hm3⟩ : ∃ m3 : Mem, { m2 with U := fun y => m2.U y ∨ y = N + 1 } = m3 := ⟨_, rfl⟩
  rw [hm3] at G3 hle3
  have hw3 : m3.w = m2.w := by rw [← hm3]
  have h0F : m3.F m.w.heap.size := by rw [← hm3, ← hm2]; exact .inr rfl
  have h0D : m3.w.heap[m.w.heap.size]? = some (.deferred (some [])) := by
    rw [hw3, ← hw2]; exact (Below.heap_alloc _ _ _ (by simp)).trans (World.alloc_heap_new m.w _)
  have hle03 : m.Le m3 := hle.trans hle3
  obtain ⟨l, hl⟩ : ∃ l, m.w.heap.size + 1 = l := ⟨_, rfl⟩
  rw [hl] at G3
  clear G1 G2 G2' hle1 hle2 hle12
  -- the frame at the start
  obtain ⟨Zi, Zf, rfl, hzi, hzf⟩ := slots_split (A := inv b0) (B := Sf) h2
  have hsl : ∀ (A B C D : List (Slot × List Nat)), (A ++ (B ++ (C ++ D))).Perm (C ++ (B ++ (A ++ D))) := fun A B C D => by
    have p1 : (A ++ (B ++ (C ++ D))).Perm ((C ++ (B ++ A)) ++ D) := by
      rw [← List.append_assoc, ← List.append_assoc]
      refine List.Perm.append_right _ ?_
      refine List.perm_append_comm.trans (List.Perm.append_left _ List.perm_append_comm)
    simpa [List.append_assoc] using p1
  let J : Nat → List Slot → Prop := fun i Sl => ∃ b, R i b ∧ Sl = inv b ++ (N, .raw l (.loop (rec .ready none))) :: (N + 1, .tv K) :: Sf
  let Jx : List Slot → Prop := fun Sl => ∃ c pre, Sl = pre ++ (N, .raw l (.loop (rec .done (some c)))) :: (N + 1, .tv K) :: Sf ∧ AWP none P nt c Q ⟨T, pre ++ Sf⟩
  have hY : Yld P (.func (.yield l) #[] #[]) xs J Jx := by
    refine ⟨l, rfl, ?_⟩
    rintro i vs hi Sl ⟨b, hRb, rfl⟩ Si mr Nr Zr us hZr Gr hus
    have hRel0 : Rel nt mr ⟨zipT T ps.toList vs, inv b ++ (N, .raw l (.loop (rec .ready none))) :: ((N + 1, .tv K) :: Sf ++ Si)⟩ { tmps := (ps.toList.zip us).foldl (fun t q => t.setIfInBounds q.1 q.2) a.tmps, defers := [] } mr.w := by
      obtain ⟨Za, Zb, rfl, hza, hzb⟩ := slots_split (A := Si) hZr
      have hp : (Za ++ Zb).Perm (Zb ++ Za) := List.perm_append_comm
      refine ⟨mr, Nr, Zb ++ Za, rfl, by simp [hza, hzb], Gr.perm hp, TRel.zip ⟨h4.1, DRel.nil rfl, fun d v hd => ?_⟩ hus fun d hd => ?_⟩
      · have hO : ∃ bs, ((N + 1, AO.tv K), bs) ∈ Zb := by
          have : (N + 1, AO.tv K) ∈ Zb.map (·.1) := by rw [hzb]; simp
          obtain ⟨⟨q, bs⟩, hq, rfl⟩ := List.mem_map.1 this
          exact ⟨bs, hq⟩
        obtain ⟨bs, hO⟩ := hO
        have := Gr.obj _ (List.mem_append_right _ hO)
        obtain ⟨_, _, hk⟩ := this
        obtain ⟨u, h5, _⟩ := h4.2.2 d v hd
        exact ⟨u, h5, hk v u (by rw [hK]; exact ⟨d, hd, h5⟩)⟩
      · have := List.all_eq_true.1 hps d hd
        simpa [Nat.blt_eq] using this
    have hheap := (hRel0.setRaw (o' := .deferred none)).1
    have hus2 : us.length = ps.size := by
      rw [(VTs.get hus).1]
      exact hlen vs (List.mem_of_getElem? hi)
    refine ⟨fn, (ps.toList.zip us).foldl (fun t q => t.setIfInBounds q.1 q.2) a.tmps, assign, body, ?_, ?_⟩
    · have := run_yield (P := P) (args := us.toArray) hheap (by rw [hrec]; simpa using hus2)
      rw [this, hrec]
      simp only
      congr 2
      rw [← Array.foldl_toList]
      simp [Array.toList_zip]
    · have hA := hround i vs b l _ ((N, .raw l (.loop (rec .busy none))) :: ((N + 1, .tv K) :: Sf ++ Si)) hi hRb mr _ _ hRel0
      refine roundIn_of_wpIn (F := FW none) trivial (wpIn_mono (F := FW (some l)) hA fun e a' w' ⟨st', hr', hq⟩ => ?_)
      cases e with
      | normal =>
        obtain ⟨pre, hsub, hk⟩ := hq
        obtain ⟨hb1, hr2⟩ := (hr'.sub (T := st'.T) hsub).setRaw (o' := .loop (rec .busy none))
        refine ⟨_, run_beginRound hb1 (by rw [hrec]), ?_⟩
        have hr3 : Rel nt mr ⟨st'.T, pre ++ (N, .raw l (.loop (rec .busy none))) :: ((N + 1, .tv K) :: Sf ++ Si)⟩ a' (w'.putObj l (.loop { rec .ready none with state := .busy })) := by
          have : ({ rec .ready none with state := .busy } : Loop) = rec .busy none := by rw [hrec]
          rw [this]; exact hr2
        refine wpIn_mono (F := FW (some l)) (hk mr _ _ hr3) fun e a2 w2 ⟨st2, hr4, hq2⟩ => ?_
        have fin : ∀ (pre2 : List Slot) (jump : Option Code) (st : LoopState), st = (if jump.isNone then LoopState.ready else .done) → (pre2 ++ (N, .raw l (.loop (rec .busy none))) :: ((N + 1, .tv K) :: Sf ++ Si)).Sublist st2.S →
            ((jump.isNone = true → J (i + 1) (pre2 ++ (N, .raw l (.loop (rec st jump))) :: (N + 1, .tv K) :: Sf)) ∧ (jump.isNone = false → Jx (pre2 ++ (N, .raw l (.loop (rec st jump))) :: (N + 1, .tv K) :: Sf))) →
            ∃ v w', (Instr.endRound l jump).run P w2 = .ok v w' ∧ ∃ b Sl' m' N' Z', Ending.returned v = .returned (.bool b) ∧ m'.w = w' ∧ Z'.map (·.1) = Si ++ Sl' ∧ Good mr m' N' Z' [] ∧ (b = true → J (i + 1) Sl') ∧ (b = false → Jx Sl') := by
          intro pre2 jump st hst hsub2 hj
          obtain ⟨hb3, hr5⟩ := (hr4.sub (T := st2.T) hsub2).setRaw (o' := .loop (rec st jump))
          refine ⟨_, _, run_endRound jump hb3, jump.isNone, pre2 ++ (N, .raw l (.loop (rec st jump))) :: (N + 1, .tv K) :: Sf, ?_⟩
          have hrq : ({ rec .busy none with state := if jump.isNone then .ready else .done, pending := jump } : Loop) = rec st jump := by rw [hrec, hst]
          rw [hrq]
          obtain ⟨m', N', Z', h5, h6, h7, h8⟩ := hr5
          have h6' : Z'.map (·.1) = (pre2 ++ (N, .raw l (.loop (rec st jump))) :: (N + 1, .tv K) :: Sf) ++ Si := by simpa using h6
          obtain ⟨Zc, Zd, rfl, hzc, hzd⟩ := slots_split h6'
          exact ⟨m', N', Zd ++ Zc, rfl, h5, by simp only [List.map_append, hzc, hzd], h7.perm List.perm_append_comm, hj.1, hj.2⟩
        cases e with
        | normal =>
          obtain ⟨pre2, hsub2, b', hRb', rfl⟩ := hq2
          exact fin (inv b') none .ready rfl hsub2 ⟨fun _ => ⟨b', hRb', rfl⟩, fun h => by cases h⟩
        | ret =>
          obtain ⟨pre2, hsub2, hx⟩ := hq2
          exact fin pre2 (some .ret) .done rfl hsub2 ⟨fun h => (by cases h), fun _ => ⟨_, pre2, rfl, hx⟩⟩
        | exit id =>
          obtain ⟨pre2, hsub2, hx⟩ := hq2
          exact fin pre2 (some (.exit id)) .done rfl hsub2 ⟨fun h => (by cases h), fun _ => ⟨_, pre2, rfl, hx⟩⟩
        | goto t => exact hq2.elim
        | panic ch => exact hq2.elim
        | outgrown => exact hq2.elim
      | _ => exact hq.elim
  have hSp := hI.2 _ J Jx hY (inv b0 ++ (N, .raw l (.loop (rec .ready none))) :: (N + 1, .tv K) :: Sf) ⟨b0, hR, rfl⟩
  have hcall := hSp.run [] m3 (N + 1 + 1) (Zi ++ ((N, .raw l (.loop (rec .ready none))), [l]) :: ((N + 1, .tv K), []) :: Zf) (#[.func (.yield l) #[] #[]] ++ cs) (by simp [hzi, hzf])
    (by
      refine (G3.perm ?_).self
      have := hsl [((N + 1, .tv K), [])] [((N, .raw l (.loop (rec .ready none))), [l])] Zi Zf
      simpa using this) (by
      have h5 := vts_cap hs (VCs.mono hle03 cap (by simp) hcap)
      have := (VTs_cons (m := m3) (a := .prim (.func (.yield l) #[] #[])) (as := cap) (vs := .func (.yield l) #[] #[] :: cs.toList) (bs := []) rfl).2 ⟨_, _, [], [], rfl, rfl, ⟨⟨rfl, rfl⟩, rfl⟩, h5⟩
      simpa using this)
  refine ⟨l, [markD m.w.heap.size], m3.w, { target := .fn (.func gf) cs, args := #[.func (.yield l) #[] #[]] }, m3.w, gf, #[.func (.yield l) #[] #[]] ++ cs, m3.w, ?_, ?_, ?_, ?_, ?_, ?_⟩
  · rw [hw3, ← hw2, hrec, ← hl]
    exact run_enterLoop_outer fn a.tmps ps assign body
  · simp only [resolve, rangeCall, e1, Deferred.ofValue]
    simp [Sem.run_pure, Act.eval]
  · exact fun _ _ => trivial
  · have hf := hI.1
    unfold isFn at hf
    split at hf
    · rename_i fn' hfn
      simp only [Bool.and_eq_true, Bool.not_eq_true'] at hf
      have hb : fn'.body.isNone = false := by
        cases hfb : fn'.body with
        | none => rw [hfb] at hf; simp at hf
        | some c => rfl
      have h1 : ¬ fn'.name = "runtime.NumGoroutine" := by simpa using hf.1
      have h2 : ¬ fn'.body = none := by intro h; rw [h] at hb; cases hb
      simp [invoke, callFunc, program, Sem.run_bind, Sem.run, Result.andThen_ok, hfn, h1, h2]
    · cases hf
  · exact fun h => (by simp [FW, Fence.wide] at h)
  · refine calls_fw (hcall.mono ?_)
    rintro e w' ⟨v, r, S', m', N', Z', br, rfl, rfl, hm, G', hv, hq⟩
    rw [List.append_nil] at hm
    obtain ⟨G'', _⟩ := Good.freeze (ex := br) (ex' := []) (by simpa using (G3.perm (by have := hsl [((N + 1, .tv K), [])] [((N, .raw l (.loop (rec .ready none))), [l])] Zi Zf; simpa using this)).after G') _ rfl
    have hle' : m3.Le { m' with F := fun b => m'.F b ∨ b ∈ br } := G'.le.trans ⟨fun _ h => h, fun _ _ _ h => h, fun b hb => ⟨.inl hb, rfl⟩⟩
    have hT' : TRel m0 { m' with F := fun b => m'.F b ∨ b ∈ br } nt T { a with defers := [markD m.w.heap.size] ++ a.defers } := by
      have h5 := h4.mono (hle03.trans hle')
      refine ⟨h5.1, ?_, h5.2.2⟩
      obtain ⟨ds, h6, h7, h8⟩ := h4.2.1
      refine ⟨m.w.heap.size :: ds, by rw [h6]; rfl, List.nodup_cons.2 ⟨fun h => ?_, h7⟩, fun d hd => ?_⟩
      · have := h3.frz _ (h8 _ h).2.1
        omega
      · rcases List.mem_cons.1 hd with rfl | hd
        · exact ⟨h3.size, (hle'.F _ h0F).1, (hle'.F _ h0F).2.trans h0D⟩
        · obtain ⟨h9, h10, h11⟩ := h8 d hd
          exact ⟨h9, ((hle03.trans hle').F _ h10).1, ((hle03.trans hle').F _ h10).2.trans h11⟩
    have fin : ∀ (pre : List Slot) (rc : Loop), rc.state ≠ .busy → S' = pre ++ (N, .raw l (.loop rc)) :: (N + 1, .tv K) :: Sf → ∃ w4, (Instr.endLoop l).run P m'.w = .ok rc.pending w4 ∧ Rel nt m0 ⟨T, pre ++ Sf⟩ { a with defers := [markD m.w.heap.size] ++ a.defers } w4 := by
      rintro pre rc hrc rfl
      have hrel : Rel nt m0 ⟨T, pre ++ (N, .raw l (.loop rc)) :: ((N + 1, .tv K) :: Sf)⟩ { a with defers := [markD m.w.heap.size] ++ a.defers } m'.w := ⟨{ m' with F := fun b => m'.F b ∨ b ∈ br }, N', Z', rfl, hm, G'', hT'⟩
      obtain ⟨hb5, hr5⟩ := hrel.setRaw (o' := .loop { rc with state := .exhausted })
      refine ⟨_, run_endLoop hb5 hrc, hr5.sub ?_⟩
      exact List.Sublist.append_left (List.Sublist.cons _ (List.Sublist.cons _ (List.Sublist.refl _))) _
    rcases hq with ⟨b, hRb, hS'⟩ | ⟨c, pre, hS', hx⟩
    · obtain ⟨w4, h5, h6⟩ := fin (inv b) (rec .ready none) (by rw [hrec]; simp) hS'
      refine ⟨none, w4, by rw [h5, hrec], _, h6, hdone b hRb⟩
    · obtain ⟨w4, h5, h6⟩ := fin pre (rec .done (some c)) (by rw [hrec]; simp) hS'
      exact ⟨some c, w4, by rw [h5, hrec], hx m0 _ _ h6⟩
end
end Go.Proofs.Ytfkppbkipbbmaaa

namespace Go.Proofs.Ytfkppbkipbbmaaa
set_option linter.unusedVariables false
set_option linter.unusedSimpArgs false
variable {ro : Option Nat}
open Go.RowKit

section
variable {P : Program} {nt : Nat} {ops : Array Oper}
theorem any_orderT {m0 : Mem} {st : St} {effs : List Eff} {Q' : Exit → Act → World → Prop} {k : Nat} (hk : effs.length = k) (heff : effs.map (·.o) = ops.toList.take k) (hloc : ∀ i e, effs[i]? = some e → LocOK P nt ops e (stX effs 0 (fun j => decide (j < i)) st))
    (hc : compat effs (masks ops.toList []) = true) (hdn : down ops.toList 0 = true) (htail : ∀ i, k ≤ i → i < ops.size → ∃ m, (masks ops.toList [])[i]? = some m ∧ ∀ j, j < i → m.testBit j = true)
    (hQ : ∀ fuel (X : Array Bool) a w, X.size = ops.size → (∀ j, j < k → j < ops.size → X.getD j false = true) → (∀ j, k ≤ j → X.getD j false = false) → ((List.range ops.size).filter fun j => !X.getD j false).length ≤ fuel → Rel nt m0 (stX effs 0 (fun _ => true) st) a w → wpAnyIn (FW ro) 0 P .any ops Q' fuel X a w) :
    ∀ (fuel : Nat) (X : Array Bool) (a : Act) (w : World), X.size = ops.size → (∀ j o, ops.toList[j]? = some o → X.getD j false = true → ∀ e ∈ o.after.toList, Region.binds .any e = true → X.getD e.on false = true) → (∀ j, k ≤ j → X.getD j false = false) →
      ((List.range ops.size).filter fun j => !X.getD j false).length ≤ fuel → Rel nt m0 (stX effs 0 (fun j => X.getD j false) st) a w → wpAnyIn (FW ro) 0 P .any ops Q' fuel X a w := by
  have hkn : k ≤ ops.size := by
    have := congrArg List.length heff
    simp only [List.length_map, List.length_take, Array.length_toList] at this
    omega
  -- the head is done
  have done : ∀ fuel (X : Array Bool) a w, X.size = ops.size → (∀ j, k ≤ j → X.getD j false = false) → (∀ j, j < k → X.getD j false = true) → ((List.range ops.size).filter fun j => !X.getD j false).length ≤ fuel → Rel nt m0 (stX effs 0 (fun j => X.getD j false) st) a w → wpAnyIn (FW ro) 0 P .any ops Q' fuel X a w := by
    intro fuel X a w hX hno hall hf hr
    refine hQ fuel X a w hX (fun j hj _ => hall j hj) hno hf ?_
    have hT : ∀ t, look (stX effs 0 (fun j => X.getD j false) st).T t = look (stX effs 0 (fun _ => true) st).T t := fun t =>
      stX_look (fun j e he _ => by rw [Nat.zero_add]; exact hall j (by rw [← hk]; exact (List.getElem?_eq_some_iff.1 he).1)) rfl
    have hS : (stX effs 0 (fun j => X.getD j false) st).S = (stX effs 0 (fun _ => true) st).S := List.ext_getElem? fun p =>
      stX_get (fun j e he _ => by rw [Nat.zero_add]; exact hall j (by rw [← hk]; exact (List.getElem?_eq_some_iff.1 he).1)) rfl rfl
    have hr' : Rel nt m0 ⟨(stX effs 0 (fun _ => true) st).T, (stX effs 0 (fun j => X.getD j false) st).S⟩ a w := Rel.congr hr fun d v h => (hT d).trans h
    rw [hS] at hr'
    exact hr'
  have ready : ∀ (X : Array Bool), X.size = ops.size → Region.ready .any ops X = [] → ∀ j, j < ops.size → X.getD j false = true := by
    intro X hX hnil j
    induction j using Nat.strongRecOn with
    | _ j ih =>
      intro hj
      cases hx : X.getD j false with
      | true => rfl
      | false =>
        exfalso
        have : j ∈ Region.ready .any ops X := by
          refine List.mem_filter.2 ⟨List.mem_range.2 hj, ?_⟩
          have ho : ops[j]? = some ops[j] := by simp [hj]
          have hx' : X.getD j true = false := by
            have hjX : j < X.size := by omega
            simp only [Array.getD_eq_getD_getElem?, Array.getElem?_eq_getElem hjX, Option.getD_some] at hx ⊢
            exact hx
          simp only [hx', ho, Option.map_some, Option.getD_some, Bool.not_false, Bool.true_and]
          rw [Array.all_eq_true']
          intro e he
          cases hb : Region.binds .any e with
          | false => simp
          | true =>
            have hlt := down_spec _ 0 hdn j ops[j] (by simp [hj]) e (by simpa using he) hb
            have := ih e.on (by omega) (by omega)
            simpa using this
        rw [hnil] at this
        cases this
  intro fuel
  induction fuel with
  | zero =>
    intro X a w hX hdc hno hf hr
    have hall : ∀ j, j < ops.size → X.getD j false = true := by
      intro j hj
      have hnil := List.eq_nil_of_length_eq_zero (Nat.le_zero.1 hf)
      cases hx : X.getD j false with
      | true => rfl
      | false =>
        have : j ∈ (List.range ops.size).filter fun j => !X.getD j false := List.mem_filter.2 ⟨List.mem_range.2 hj, by simp only [hx, Bool.not_false]⟩
        rw [hnil] at this
        cases this
    exact done 0 X a w hX hno (fun j hj => hall j (by omega)) hf hr
  | succ fuel ih =>
    intro X a w hX hdc hno hf hr
    by_cases hhead : ∀ j, j < k → X.getD j false = true
    · exact done _ X a w hX hno hhead hf hr
    obtain ⟨j0, hj0, hX0⟩ : ∃ j, j < k ∧ X.getD j false = false := by
      simp only [Classical.not_forall] at hhead
      obtain ⟨j, hj, hx⟩ := hhead
      exact ⟨j, hj, by simpa using hx⟩
    refine ⟨fun hnil => absurd (ready X hX hnil j0 (by omega)) (by rw [hX0]; simp), fun i hi => ?_⟩
    obtain ⟨hi1, hi2⟩ := List.mem_filter.1 hi
    have hin := List.mem_range.1 hi1
    have ho : ops[i]? = some ops[i] := by simp [hin]
    have hiX : i < X.size := by omega
    simp only [ho, Option.map_some, Option.getD_some, Bool.and_eq_true] at hi2
    have hXi : X.getD i false = false := by
      have h := hi2.1
      simp only [Array.getD_eq_getD_getElem?, Array.getElem?_eq_getElem hiX, Option.getD_some] at h ⊢
      simpa using h
    have hpre : ∀ e ∈ (ops[i]).after.toList, Region.binds .any e = true → X.getD e.on false = true := by
      intro e he hb
      have := Array.all_eq_true'.1 hi2.2 e (by simpa using he)
      simpa [hb] using this
    have hik : i < k := by
      refine Nat.lt_of_not_le fun hle => ?_
      obtain ⟨mk, hmk, hmb⟩ := htail i hle hin
      have hcl2 := masks_spec (fun k => X.getD k false || decide (k = i)) ops.toList [] (fun k o hk hXk ee hee hb => by
        simp only [List.length_nil, Nat.zero_add, Bool.or_eq_true, decide_eq_true_eq] at hXk ⊢
        rcases hXk with h | h
        · exact .inl (hdc k o hk h ee hee hb)
        · subst h
          have : o = ops[k] := by simpa [hin] using hk.symm
          subst this
          exact .inl (hpre ee hee hb)) (fun j m h => by simp at h) i mk hmk (by simp) j0 (hmb j0 (by omega))
      simp only [Bool.or_eq_true, decide_eq_true_eq, hX0] at hcl2
      rcases hcl2 with h | h
      · cases h
      · omega
    -- the effect of i
    obtain ⟨e, he⟩ : ∃ e, effs[i]? = some e := ⟨effs[i]'(by omega), List.getElem?_eq_getElem (by omega)⟩
    have heo : e.o = ops[i] := by
      have h1 : (effs.map (·.o))[i]? = some e.o := by simp [he]
      rw [heff, List.getElem?_take_of_lt hik] at h1
      simpa [hin] using h1.symm
    -- who clashes with i is ordered
    have hmask := masks_spec (fun j => X.getD j false) ops.toList [] (fun j o hj hXj e he hb => hdc j o hj (by simpa using hXj) e he hb) (fun j m h => by simp at h)
    have hcomp : ∀ a b ea eb, a < b → effs[a]? = some ea → effs[b]? = some eb → clash ea eb = true → ∃ m : Nat, (masks ops.toList [])[b]? = some m ∧ m.testBit a = true := by
      intro a b ea eb hab hea heb hcl
      have h1 := List.all_eq_true.1 hc b (List.mem_range.2 (List.getElem?_eq_some_iff.1 heb).1)
      have h2 := List.all_eq_true.1 h1 a (List.mem_range.2 hab)
      simp only [hea, heb] at h2
      cases hm : (masks ops.toList [])[b]? with
      | none => rw [hm] at h2; cases h2
      | some m => rw [hm] at h2; exact ⟨m, rfl, by simpa [hcl] using h2⟩
    have hbefore : ∀ j ej, j < i → effs[j]? = some ej → clash ej e = true → X.getD j false = true := by
      intro j ej hj hej hcl
      obtain ⟨m, hm1, hm2⟩ := hcomp j i ej e hj hej he hcl
      -- X with i listed is closed too
      have hcl2 := masks_spec (fun k => X.getD k false || decide (k = i)) ops.toList [] (fun k o hk hXk ee hee hb => by
        simp only [List.length_nil, Nat.zero_add, Bool.or_eq_true, decide_eq_true_eq] at hXk ⊢
        rcases hXk with h | h
        · exact .inl (hdc k o hk h ee hee hb)
        · subst h
          have : o = ops[k] := by simpa [hin] using hk.symm
          subst this
          exact .inl (hpre ee hee hb)) (fun j m h => by simp at h) i m hm1 (by simp) j hm2
      simp only [Bool.or_eq_true, decide_eq_true_eq] at hcl2
      rcases hcl2 with h | h
      · exact h
      · omega
    have hafter : ∀ j ej, i < j → effs[j]? = some ej → clash e ej = true → X.getD j false = false := by
      intro j ej hj hej hcl
      obtain ⟨m, hm1, hm2⟩ := hcomp i j e ej hj he hej hcl
      cases hx : X.getD j false with
      | false => rfl
      | true =>
        have := hmask j m hm1 hx i hm2
        rw [hXi] at this
        cases this
    -- what i reads is as in the text's order
    have hrT : ∀ t ∈ e.rT, look (stX effs 0 (fun j => X.getD j false) st).T t = look (stX effs 0 (fun j => decide (j < i)) st).T t := by
      intro t ht
      refine stX_look (fun j ej hej hd => ?_) rfl
      rw [Nat.zero_add]
      rcases Nat.lt_trichotomy j i with h | h | h
      · rw [hbefore j ej h hej ?_]
        · simp [h]
        · cases hcl : clash ej e with
          | true => rfl
          | false => exact absurd ht ((clash_spec hcl).1 t hd)
      · subst h
        rw [hXi]; simp
      · rw [hafter j ej h hej ?_]
        · simp; omega
        · cases hcl : clash e ej with
          | true => rfl
          | false => exact absurd ht ((clash_spec hcl).2.1 t hd)
    have hrS : ∀ p ∈ e.rS, (stX effs 0 (fun j => X.getD j false) st).S[p]? = (stX effs 0 (fun j => decide (j < i)) st).S[p]? := by
      intro p hp
      refine stX_get (fun j ej hej hd => ?_) rfl rfl
      rw [Nat.zero_add]
      obtain ⟨q, hq, rfl⟩ := hd
      rcases Nat.lt_trichotomy j i with h | h | h
      · rw [hbefore j ej h hej ?_]
        · simp [h]
        · cases hcl : clash ej e with
          | true => rfl
          | false => exact absurd hp ((clash_spec hcl).2.2.2.1 q hq)
      · subst h
        rw [hXi]; simp
      · rw [hafter j ej h hej ?_]
        · simp; omega
        · cases hcl : clash e ej with
          | true => rfl
          | false => exact absurd hp ((clash_spec hcl).2.2.2.2.1 q hq)
    -- the state with i listed
    have hX' : ∀ k, (X.setIfInBounds i true).getD k false = (X.getD k false || decide (k = i)) := by
      intro k
      simp only [Array.getD_eq_getD_getElem?, Array.getElem?_setIfInBounds]
      by_cases hk : i = k
      · subst hk; simp [hiX]
      · simp [hk, Ne.symm hk]
    have hnew : ∀ a w, Rel nt m0 (e.app (stX effs 0 (fun j => X.getD j false) st)) a w → Rel nt m0 (stX effs 0 (fun j => (X.setIfInBounds i true).getD j false) st) a w := by
      intro a w hr'
      have hT : ∀ t, look (stX effs 0 (fun j => (X.setIfInBounds i true).getD j false) st).T t = look (e.app (stX effs 0 (fun j => X.getD j false) st)).T t := by
        intro t
        by_cases hd : e.o.dst = some t
        · rw [stX_last (i := i) (e := e) (t := t) he (by rw [Nat.zero_add, hX']; simp) hd ?_]
          · simp [Eff.app, hd, putD, look_cons]
          · intro j ej hj hej hXj hdj
            rw [Nat.zero_add, hX'] at hXj
            have hXj' : X.getD j false = true := by
              simp only [Bool.or_eq_true, decide_eq_true_eq] at hXj
              rcases hXj with h | h
              · exact h
              · omega
            have := hafter j ej hj hej (by
              cases hcl : clash e ej with
              | true => rfl
              | false => exact absurd hdj ((clash_spec hcl).2.2.1 t hd))
            rw [hXj'] at this
            cases this
        · have ap : look (e.app (stX effs 0 (fun j => X.getD j false) st)).T t = look (stX effs 0 (fun j => X.getD j false) st).T t := by
            simp only [Eff.app]
            cases hdd : e.o.dst with
            | none => rfl
            | some d => rw [putD, look_cons, if_neg]; exact fun h => hd (by rw [hdd, h])
          rw [ap]
          refine stX_look (fun j ej hej hdj => ?_) rfl
          rw [Nat.zero_add, hX']
          have : j ≠ i := by
            rintro rfl
            rw [he] at hej
            injection hej with hej
            subst hej
            exact hd hdj
          simp [this]
      have hS : (stX effs 0 (fun j => (X.setIfInBounds i true).getD j false) st).S = (e.app (stX effs 0 (fun j => X.getD j false) st)).S := by
        refine List.ext_getElem? fun p => ?_
        by_cases hd : ∃ q ∈ e.wS, q.1 = p
        · rw [stX_lastS (i := i) (e := e) (p := p) he (by rw [Nat.zero_add, hX']; simp) hd ?_ (stX effs 0 (fun j => X.getD j false) st).S (stX_len ..)]
          · rfl
          · intro j ej hj hej hXj hdj
            rw [Nat.zero_add, hX'] at hXj
            have hXj' : X.getD j false = true := by
              simp only [Bool.or_eq_true, decide_eq_true_eq] at hXj
              rcases hXj with h | h
              · exact h
              · omega
            obtain ⟨q, hq, hqp⟩ := hd
            obtain ⟨q', hq', hqp'⟩ := hdj
            have := hafter j ej hj hej (by
              cases hcl : clash e ej with
              | true => rfl
              | false => exact absurd (hqp.trans hqp'.symm) ((clash_spec hcl).2.2.2.2.2 q hq q' hq'))
            rw [hXj'] at this
            cases this
        · have ap : (e.app (stX effs 0 (fun j => X.getD j false) st)).S[p]? = (stX effs 0 (fun j => X.getD j false) st).S[p]? := setAll_ne (fun q hq h => hd ⟨q, hq, h⟩) _
          rw [ap]
          refine stX_get (fun j ej hej hdj => ?_) rfl rfl
          rw [Nat.zero_add, hX']
          have : j ≠ i := by
            rintro rfl
            rw [he] at hej
            injection hej with hej
            subst hej
            exact hd hdj
          simp [this]
      have := Rel.congr hr' (T' := (stX effs 0 (fun j => (X.setIfInBounds i true).getD j false) st).T) fun d v h => (hT d).symm.trans h
      rw [show (⟨(stX effs 0 (fun j => (X.setIfInBounds i true).getD j false) st).T, setAll (stX effs 0 (fun j => X.getD j false) st).S e.wS⟩ : St) = stX effs 0 (fun j => (X.setIfInBounds i true).getD j false) st from by
        rw [show setAll (stX effs 0 (fun j => X.getD j false) st).S e.wS = (e.app (stX effs 0 (fun j => X.getD j false) st)).S from rfl, ← hS]] at this
      exact this
    have next : ∀ a w, Rel nt m0 (e.app (stX effs 0 (fun j => X.getD j false) st)) a w → wpAnyIn (FW ro) 0 P .any ops Q' fuel (X.setIfInBounds i true) a w := by
      intro a w hr'
      refine ih _ a w (by simp [hX]) ?_ ?_ ?_ (hnew a w hr')
      · intro j o hj hXj ee hee hb
        rw [hX'] at hXj ⊢
        simp only [Bool.or_eq_true, decide_eq_true_eq] at hXj ⊢
        rcases hXj with h | h
        · exact .inl (hdc j o hj h ee hee hb)
        · subst h
          have : o = ops[j] := by simpa [hin] using hj.symm
          subst this
          exact .inl (hpre ee hee hb)
      · intro j hj
        rw [hX', hno j hj]
        simp; omega
      · have e1 : (List.range ops.size).filter (fun j => !(X.setIfInBounds i true).getD j false) = ((List.range ops.size).filter fun j => !X.getD j false).filter fun j => !decide (j = i) := by
          rw [List.filter_filter]
          congr 1
          funext j
          rw [hX']
          cases X.getD j false <;> simp
        have hmem : i ∈ (List.range ops.size).filter fun j => !X.getD j false := List.mem_filter.2 ⟨List.mem_range.2 hin, by simp only [hXi, Bool.not_false]⟩
        have := (List.length_filter_lt_length_iff_exists (l := (List.range ops.size).filter fun j => !X.getD j false) (p := fun j => !decide (j = i))).2 ⟨i, hmem, by simp⟩
        rw [e1]
        omega
    have hl := hloc i e he m0 _ _ a w hrT hrS hr
    unfold wpOpIn
    simp only [ho]
    rw [heo] at hl
    by_cases hw : Region.wanted ops[i] (yielded ops a.tmps) = true
    · rw [if_pos hw] at hl ⊢
      exact wpIn_fw hl next
    · rw [if_neg hw] at hl ⊢
      exact ⟨fun _ _ => trivial, next _ _ hl⟩

/-- The operations of a region from i on come in the text's order. -/
theorem any_tail {Q' : Exit → Act → World → Prop} (hdn : down ops.toList 0 = true) : ∀ (fuel i : Nat) (X : Array Bool) (a : Act) (w : World), X.size = ops.size → (∀ j, j < i → j < ops.size → X.getD j false = true) → (∀ j, i ≤ j → X.getD j false = false) →
    (∀ i', i ≤ i' → i' < ops.size → ∃ m, (masks ops.toList [])[i']? = some m ∧ ∀ j, j < i' → m.testBit j = true) →
    ((List.range ops.size).filter fun j => !X.getD j false).length ≤ fuel → wpListIn (FW ro) 0 P ops Q' (ops.toList.drop i) a w → wpAnyIn (FW ro) 0 P .any ops Q' fuel X a w := by
  intro fuel
  induction fuel with
  | zero =>
    intro i X a w hX h1 h2 h3 hf h
    have hnil := List.eq_nil_of_length_eq_zero (Nat.le_zero.1 hf)
    have hin : ops.size ≤ i := by
      refine Nat.le_of_not_lt fun hlt => ?_
      have : i ∈ (List.range ops.size).filter fun j => !X.getD j false := List.mem_filter.2 ⟨List.mem_range.2 hlt, by simp only [h2 i (Nat.le_refl _), Bool.not_false]⟩
      rw [hnil] at this
      cases this
    rw [List.drop_eq_nil_of_le (by simpa using hin)] at h
    refine ⟨List.filter_eq_nil_iff.2 fun j hj => ?_, h⟩
    have hj' := List.mem_range.1 hj
    have := h1 j (by omega) hj'
    have hjX : j < X.size := by omega
    simp only [Array.getD_eq_getD_getElem?, Array.getElem?_eq_getElem hjX, Option.getD_some] at this ⊢
    simp [this]
  | succ fuel ih =>
    intro i X a w hX h1 h2 h3 hf h
    have hget : ∀ j, X.getD j true = false → j < ops.size ∧ X.getD j false = false := by
      intro j hj
      have hjX : j < X.size := by
        refine Nat.lt_of_not_le fun hle => ?_
        rw [Array.getD_eq_getD_getElem?, Array.getElem?_eq_none hle] at hj
        cases hj
      refine ⟨by omega, ?_⟩
      simp only [Array.getD_eq_getD_getElem?, Array.getElem?_eq_getElem hjX, Option.getD_some] at hj ⊢
      exact hj
    by_cases hin : i < ops.size
    · have ho : ops[i]? = some ops[i] := by simp [hin]
      have hready : i ∈ Region.ready .any ops X := by
        refine List.mem_filter.2 ⟨List.mem_range.2 hin, ?_⟩
        have hx' : X.getD i true = false := by
          have hx := h2 i (Nat.le_refl _)
          have hjX : i < X.size := by omega
          simp only [Array.getD_eq_getD_getElem?, Array.getElem?_eq_getElem hjX, Option.getD_some] at hx ⊢
          exact hx
        simp only [hx', ho, Option.map_some, Option.getD_some, Bool.not_false, Bool.true_and]
        rw [Array.all_eq_true']
        intro e he
        cases hb : Region.binds .any e with
        | false => simp
        | true =>
          have hlt := down_spec _ 0 hdn i ops[i] (by simp [hin]) e (by simpa using he) hb
          have := h1 e.on (by omega) (by omega)
          simpa using this
      refine ⟨fun hnil => (by rw [hnil] at hready; cases hready), fun j hj => ?_⟩
      obtain ⟨hj1, hj2⟩ := List.mem_filter.1 hj
      have hjn := List.mem_range.1 hj1
      have hoj : ops[j]? = some ops[j] := by simp [hjn]
      simp only [hoj, Option.map_some, Option.getD_some, Bool.and_eq_true] at hj2
      obtain ⟨_, hXj⟩ := hget j (by simpa using hj2.1)
      have hij : i ≤ j := Nat.le_of_not_lt fun hlt => by rw [h1 j hlt hjn] at hXj; cases hXj
      have hji : j = i := by
        refine Nat.le_antisymm (Nat.le_of_not_lt fun hlt => ?_) hij
        obtain ⟨mk, hmk, hmb⟩ := h3 j hij hjn
        have hcl2 := masks_spec (fun k => decide (k < i) || decide (k = j)) ops.toList [] (fun k o hk hXk ee hee hb => by
          simp only [List.length_nil, Nat.zero_add, Bool.or_eq_true, decide_eq_true_eq] at hXk ⊢
          rcases hXk with h | h
          · have := down_spec _ 0 hdn k o hk ee hee hb
            left; omega
          · subst h
            have : o = ops[k] := by simpa [hjn] using hk.symm
            subst this
            have hp := Array.all_eq_true'.1 hj2.2 ee (by simpa using hee)
            have hq : X.getD ee.on false = true := by simpa [hb] using hp
            left
            exact Nat.lt_of_not_le fun hle => by rw [h2 ee.on hle] at hq; cases hq) (fun j m h => by simp at h) j mk hmk (by simp) i (hmb i hlt)
        simp only [Bool.or_eq_true, decide_eq_true_eq] at hcl2
        omega
      subst hji
      rw [List.drop_eq_getElem_cons (by simpa using hin)] at h
      have hX' : ∀ k, (X.setIfInBounds j true).getD k false = (X.getD k false || decide (k = j)) := by
        intro k
        simp only [Array.getD_eq_getD_getElem?, Array.getElem?_setIfInBounds]
        by_cases e : j = k
        · subst e; simp [show j < X.size by omega]
        · have : ¬ k = j := fun h => e h.symm
          simp [e, this]
      have nxt : ∀ a w, wpListIn (FW ro) 0 P ops Q' (ops.toList.drop (j + 1)) a w → wpAnyIn (FW ro) 0 P .any ops Q' fuel (X.setIfInBounds j true) a w := by
        intro a w hw
        refine ih (j + 1) _ a w (by simp [hX]) (fun k hk hkn => ?_) (fun k hk => ?_) (fun i' hi' => h3 i' (by omega)) ?_ hw
        · rw [hX']
          by_cases e : k = j
          · simp [e]
          · rw [h1 k (by omega) hkn]; rfl
        · rw [hX', h2 k (by omega)]
          simp; omega
        · have e1 : (List.range ops.size).filter (fun k => !(X.setIfInBounds j true).getD k false) = ((List.range ops.size).filter fun k => !X.getD k false).filter fun k => !decide (k = j) := by
            rw [List.filter_filter]
            congr 1
            funext k
            rw [hX']
            cases X.getD k false <;> simp
          have hmem : j ∈ (List.range ops.size).filter fun k => !X.getD k false := List.mem_filter.2 ⟨List.mem_range.2 hin, by simp only [hXj, Bool.not_false]⟩
          have := (List.length_filter_lt_length_iff_exists (l := (List.range ops.size).filter fun k => !X.getD k false) (p := fun k => !decide (k = j))).2 ⟨j, hmem, by simp⟩
          rw [e1]
          omega
      unfold wpOpIn
      simp only [ho]
      unfold wpListIn at h
      simp only [Array.getElem_toList] at h
      by_cases hw : Region.wanted ops[j] (yielded ops a.tmps) = true
      · rw [if_pos hw] at h ⊢
        exact Oper.wpIn_mono nxt h
      · rw [if_neg hw] at h ⊢
        exact ⟨h.1, nxt _ _ h.2⟩
    · rw [List.drop_eq_nil_of_le (by simpa using Nat.le_of_not_lt hin)] at h
      refine ⟨fun _ => h, fun j hj => ?_⟩
      obtain ⟨hj1, hj2⟩ := List.mem_filter.1 hj
      have hjn := List.mem_range.1 hj1
      have hoj : ops[j]? = some ops[j] := by simp [hjn]
      simp only [hoj, Option.map_some, Option.getD_some, Bool.and_eq_true] at hj2
      obtain ⟨_, hXj⟩ := hget j (by simpa using hj2.1)
      rw [h1 j (by omega) hjn] at hXj
      cases hXj
theorem masks_len' : ∀ (r : List Oper) (acc : List Nat), (masks r acc).length = acc.length + r.length
  | [], acc => by simp [masks]
  | o :: r, acc => by rw [masks, masks_len' r]; simp; omega
theorem masks_len (l : List Oper) : (masks l []).length = l.length := by rw [masks_len']; simp
def tailB : Nat → List Nat → Bool
  | _, [] => true
  | i, m :: r => (List.range i).all (fun j => m.testBit j) && tailB (i + 1) r
theorem tailB_spec : ∀ {r : List Nat} {i : Nat}, tailB i r = true → ∀ q m, r[q]? = some m → ∀ j, j < i + q → m.testBit j = true
  | [], i, _, q, m, h => by simp at h
  | m0 :: r, i, ht, q, m, h => by
    simp only [tailB, Bool.and_eq_true] at ht
    intro j hj
    cases q with
    | zero =>
      simp at h
      subst h
      exact List.all_eq_true.1 ht.1 j (List.mem_range.2 (by omega))
    | succ q => exact tailB_spec ht.2 q m (by simpa using h) j (by omega)
/-- A region in any order, whose operations from k on come last, in the text's order. -/
theorem AWP.region_tail {Q : Exit → St → Prop} {id : Nat} {l : List Oper} {st : St} (k : Nat) (hm : P.follows .mixedOrders = true) (hdn : down l 0 = true) (hT : tailB k ((masks l []).drop k) = true)
    (h : RGo P nt l.toArray l (fun _ st' => AOps ro P nt l.toArray Q (l.drop k) st') (l.take k) [] st) : AWP ro P nt (.region id l.toArray true) Q st := by
  obtain ⟨effs, st', hr, hc, hA⟩ := h
  rw [List.nil_append] at hc
  intro m0 a w hrel
  obtain ⟨h1, h2, h3⟩ := hr.spec
  have hml : (masks l []).length = l.length := masks_len l
  have htail : ∀ i, k ≤ i → i < l.toArray.size → ∃ m, (masks l.toArray.toList [])[i]? = some m ∧ ∀ j, j < i → m.testBit j = true := by
    intro i hki hil
    have hil' : i < (masks l []).length := by rw [hml]; simpa using hil
    refine ⟨(masks l [])[i], by simp, fun j hj => ?_⟩
    refine tailB_spec hT (i - k) _ ?_ j (by omega)
    rw [List.getElem?_drop, Nat.add_sub_cancel' hki]
    exact List.getElem?_eq_getElem hil'
  refine wpIn_region_any hm ?_
  have hlen : effs.length = (l.take k).length := by have := congrArg List.length h2; simpa using this
  by_cases hkl : k ≤ l.length
  · have hek : effs.length = k := by rw [hlen, List.length_take, Nat.min_eq_left hkl]
    refine any_orderT (m0 := m0) (st := st) (effs := effs) (k := k) hek (by simpa using h2) h3 (by simpa using hc) (by simpa using hdn) htail ?_ _ _ a _ (by simp) ?_ ?_ ?_ ?_
    · intro fuel X a w hX hall hno hf hr'
      refine any_tail (by simpa using hdn) fuel k X a w hX hall hno htail hf ?_
      have := hA m0 a w (by rw [h1]; exact hr')
      simpa using this
    · intro j o hj hX
      have : j < l.length := by simpa using (List.getElem?_eq_some_iff.1 hj).1
      simp [this] at hX
    · intro j _
      simp only [Array.getD_eq_getD_getElem?, Array.getElem?_replicate]
      split <;> rfl
    · exact Nat.le_trans (List.length_filter_le _ _) (by simp)
    · have : (fun j => (Array.replicate l.toArray.size false).getD j false) = fun _ => false := by
        funext j
        simp only [Array.getD_eq_getD_getElem?, Array.getElem?_replicate]
        split <;> rfl
      rw [this, stX_none]
      exact hrel.draw _
  · have hkl' := Nat.le_of_not_le hkl
    rw [List.take_of_length_le hkl'] at h2
    rw [List.drop_eq_nil_of_le hkl'] at hA
    refine any_order (m0 := m0) (st := st) (effs := effs) (by simpa using h2) h3 (by simpa using hc) (by simpa using hdn) (fun a w h => ?_) _ _ a _ (by simp) ?_ ?_ ?_
    · have := hA m0 a w (by rw [h1]; exact h)
      exact this
    · intro j o hj hX
      have : j < l.length := by simpa using (List.getElem?_eq_some_iff.1 hj).1
      simp [this] at hX
    · exact Nat.le_trans (List.length_filter_le _ _) (by simp)
    · have : (fun j => (Array.replicate l.toArray.size false).getD j false) = fun _ => false := by
        funext j
        simp only [Array.getD_eq_getD_getElem?, Array.getElem?_replicate]
        split <;> rfl
      rw [this, stX_none]
      exact hrel.draw _
end
end Go.Proofs.Ytfkppbkipbbmaaa

namespace Go.Proofs.Ytfkppbkipbbmaaa
set_option linter.unusedVariables false
set_option linter.unusedSimpArgs false
variable {ro : Option Nat}
open Go.RowKit
theorem lp_nextS {β : Type} {R : β → Prop} {μ : β → Nat} {m : Nat} {inv : β → St} {st : St} (b' : β) (hR : R b') (hS : (inv b').S.Sublist st.S) (hμ : μ b' < m := by omega) (hT : Looks st.T (inv b').T := by exact (by (repeat (first | exact .nil | refine .cons (by first | rfl | assumption) ?_)))) : ∃ b', R b' ∧ μ b' < m ∧ st.Le (inv b') := ⟨b', hR, hμ, hT, hS⟩
theorem cells_frz (a : AV) : a.frz.cells = AV.frzs a.cells := by cases a <;> rfl
theorem Frz.fp {a b : AV} (h : Frz a b) : Frz (.fp a.cells) (.fp b.cells) := ⟨by show AV.fp (AV.frzs a.cells) = _; rw [← cells_frz, h.h]⟩
instance {f : FuncId} {l l' : List AV} [h : Frzs l l'] : Frz (.fn f l) (.fn f l') := ⟨by show AV.fn f (AV.frzs l) = _; rw [h.h]⟩
instance {l l' : List AV} [h : Frzs l l'] : Frz (.fp l) (.fp l') := ⟨by show AV.fp (AV.frzs l) = _; rw [h.h]⟩
theorem Frz.fn1 {f : FuncId} {a b : AV} (h : Frz a b) : Frz (.fn f [a]) (.fn f [b]) := ⟨by show AV.fn f [a.frz] = _; rw [h.h]⟩
section
variable {P : Program} {nt : Nat} {ops : Array Oper} {Q : Exit → St → Prop} {rest : List Oper} {T : List (Nat × AV)} {S : List Slot} {dst : Option Tmp} {ty t te : TypeId} {pos : String} {after : Array Edge} {g : Option (Nat × Bool)} {x y : Operand} {X p sz : Nat} {l : List AV}
theorem OpT.lit0 (he : tElem P t = some te) (hsz : tSz P te = some sz) : OpT P ⟨dst, .buildSlice t 0 #[], ty, pos, after, g⟩ [] [(p, (X, .gone))] (.sl X 0 0) [(p, (X, .row te sz []))] := by
  refine OpT.new_ (fun m a hx => ?_)
  refine ⟨#[], 0, .slice (some ⟨m.w.heap.size, 0, none⟩) 0 0, ?_, by simp, by simp, by decide, by simp, ⟨by simp, rfl⟩, .inr ⟨0, rfl, Nat.le_refl _, rfl⟩⟩
  have hr : (Instr.buildSlice t 0 #[]).run P m.w = .ok (.slice (some ⟨m.w.heap.size, 0, none⟩) 0 0) (m.w.alloc (.cells #[] te)) := by
    simp [Instr.buildSlice, run_underlying (tElem_spec he), run_sizeOf hsz, Sem.run_bind, Result.andThen_ok, Sem.run_pure, Instr.fill, newRow]
    rw [show ∀ f : Nat → Value, Array.map f (Array.range 0) = #[] from fun f => Array.size_eq_zero_iff.1 (by simp)]
  simp [execOp, Sem.run_bind, hr, Sem.run_pure, Result.andThen_ok]
/-- An operation whose result is one of several values. -/
theorem AOps.val {o : Oper} {xs : List (Operand × AV)} {K : AV → Prop} (hg : o.guard = none) (hnd : ∀ c, o.op ≠ .defer c) (h : ∀ (m : Mem) (a : Act), (∀ q ∈ xs, VV m q.2 (a.eval q.1) []) → ∃ u v, (execOp a.eval o).run P m.w = .ok (.value u) m.w ∧ VV m v u [] ∧ K v) (hx : Evs T xs) (hd : dstOk o.dst nt = true)
    (k : ∀ v, K v → AOps ro P nt ops Q rest ⟨putD T o.dst v, S⟩) : AOps ro P nt ops Q (o :: rest) ⟨T, S⟩ := by
  rintro m0 a w ⟨m, N, Z, rfl, h2, h3, h4⟩
  refine wpListIn_plain hg fun K' hK => ⟨fun _ _ => trivial, ?_⟩
  obtain ⟨u, v, h5, h6, h7⟩ := h m a fun q hq => h4.ev (hx.all q hq)
  rw [Oper.semAt_eq _ _ _ hnd, h5]
  exact hK _ _ (k v h7 m0 _ _ ⟨m, N, Z, rfl, h2, h3, h4.put (dstOk_lt hd) h6⟩)
theorem AOps.isNil [TEl P t te] (k : ∀ b : Bool, (b = true → l = []) → AOps ro P nt ops Q rest ⟨putD T dst (.prim (.bool b)), S⟩) {t' : TypeId} (hx : ev T x = some (.lst false t' sz l) := by rfl) (hd : dstOk dst nt = true := by rfl) : AOps ro P nt ops Q (⟨dst, .binOp .eql t x (.const (.slice none 0 0)) t, ty, pos, after, none⟩ :: rest) ⟨T, S⟩ := by
  refine AOps.val (xs := [(x, .lst false t' sz l)]) (K := fun v => ∃ b : Bool, (b = true → l = []) ∧ v = .prim (.bool b)) rfl (by simp) (fun m a hv => ?_) (.cons hx .nil) hd fun v ⟨b, hb, e⟩ => e ▸ k b hb
  obtain ⟨_, A, cap, e1, _, _, h0⟩ := hv _ (List.mem_cons_self ..)
  injection e1 with e1
  simp only at e1
  refine ⟨.bool A.isNone, .prim (.bool A.isNone), ?_, vv_prim _, A.isNone, fun hn => ?_, rfl⟩
  · have := Lib.run_eql_slice_nil (P := P) m.w t te A l.length cap 0 0 (tElem_spec TEl.h)
    have hc : a.eval (.const (.slice none 0 0)) = .slice none 0 0 := rfl
    have hq : (eqGuard .eql t x (.const (.slice none 0 0)) (.slice A l.length cap) (.slice none 0 0)).run P m.w = .ok () m.w := rfl
    simp [execOp, e1, hc, Sem.run_bind, Sem.run_pure, Result.andThen_ok, this, hq]
  · cases l with
    | nil => rfl
    | cons a l =>
      obtain ⟨b, off, arr, t, r, e2, _⟩ := h0 (by simp)
      rw [e2] at hn
      cases hn
/-- An empty literal. -/
theorem AOps.goL0 [TEl P t te] [TSize P te sz] (k : ∀ X, AOps ro P nt ops Q rest ⟨putD T dst (.sl X 0 0), (X, .row te sz []) :: S⟩) (hd : dstOk dst nt = true := by rfl) : AOps ro P nt ops Q (⟨dst, .buildSlice t 0 #[], ty, pos, after, none⟩ :: rest) ⟨T, S⟩ :=
  AOps.rs fun X => AOps.step (o := ⟨dst, .buildSlice t 0 #[], ty, pos, after, none⟩) (xs := []) (rS := [(0, (X, .gone))]) rfl (OpT.lit0 TEl.h TSize.h) .nil (.cons .here .nil) hd (k X)
section
variable {Si Sl Sf : List Slot} {yv : Value} {xs : List (List AV)} {J : Nat → List Slot → Prop} {Jx : List Slot → Prop} {ats : Array TypeId} {i : Nat} {x0 x1 : Operand} {v0 v1 : AV}
theorem AOps.yield1 (hY : Yld P yv xs J Jx) (hJ : J i Sl) (hi : xs[i]? = some [v0]) (kt : ∀ Sl', J (i + 1) Sl' → AOps ro P nt ops Q rest ⟨putD T dst (.prim (.bool true)), Si ++ (Sl' ++ Sf)⟩) (kf : ∀ Sl', Jx Sl' → AOps ro P nt ops Q rest ⟨putD T dst (.prim (.bool false)), Si ++ (Sl' ++ Sf)⟩)
    (hx : ev T x = some (.prim yv) := by rfl) (h0 : ev T x0 = some v0 := by rfl) (ht : noTup [(x0, v0)] = true := by rfl) (hd : dstOk dst nt = true := by rfl) : AOps ro P nt ops Q (⟨dst, .call ⟨.value x, #[x0], ats⟩, ty, pos, after, none⟩ :: rest) ⟨T, Si ++ (Sl ++ Sf)⟩ :=
  AOps.yield (ys := [(x0, v0)]) hY hJ hi hx (.cons h0 .nil) ht hd kt kf
theorem AOps.yield2 (hY : Yld P yv xs J Jx) (hJ : J i Sl) (hi : xs[i]? = some [v0, v1]) (kt : ∀ Sl', J (i + 1) Sl' → AOps ro P nt ops Q rest ⟨putD T dst (.prim (.bool true)), Si ++ (Sl' ++ Sf)⟩) (kf : ∀ Sl', Jx Sl' → AOps ro P nt ops Q rest ⟨putD T dst (.prim (.bool false)), Si ++ (Sl' ++ Sf)⟩)
    (hx : ev T x = some (.prim yv) := by rfl) (h0 : ev T x0 = some v0 := by rfl) (h1 : ev T x1 = some v1 := by rfl) (ht : noTup [(x0, v0), (x1, v1)] = true := by rfl) (hd : dstOk dst nt = true := by rfl) : AOps ro P nt ops Q (⟨dst, .call ⟨.value x, #[x0, x1], ats⟩, ty, pos, after, none⟩ :: rest) ⟨T, Si ++ (Sl ++ Sf)⟩ :=
  AOps.yield (ys := [(x0, v0), (x1, v1)]) hY hJ hi hx (.cons h0 (.cons h1 .nil)) ht hd kt kf
end
/-- A slice that is made, its elements as we say them. -/
theorem AOps.goM {kk kk' : IntKind} {zl : List Value} {ag : Bool} {m by_ : Nat} {i j : Int} (a : AV) [TEl P t te] [TZe P te zl] [TSize P te sz] [TAg P te ag] [TBy P te by_] (k : ∀ X, AOps ro P nt ops Q rest ⟨putD T dst (.sl X 0 m), (X, .row te sz (List.replicate m a)) :: S⟩)
    (hx : Rd none T x (.prim (.int kk i)) := by rfl) (hy : Rd none T y (.prim (.int kk' j)) := by rfl) (hq : i = (m : Int) := by rfl) (hq' : j = (m : Int) := by rfl) (hm : m ≤ 1099511627776 := by first | assumption | omega | (simp; omega)) (hby : by_ ≤ 128 := by decide) (hzs : zl.length = sz := by exact rfl) (hag : ag = true ∨ zl.length = 1 := by first | exact .inl rfl | exact .inr rfl) (hz : zAV zl ag = a := by exact rfl) (hd : dstOk dst nt = true := by rfl) : AOps ro P nt ops Q (⟨dst, .makeSlice t x y, ty, pos, after, none⟩ :: rest) ⟨T, S⟩ := by
  subst hz
  exact AOps.rs fun X => AOps.s (W.make hx hy .here hzs hag hq hq' (Nat.le_refl _) (Nat.le_trans (Nat.mul_le_mul hby hm) (by decide)) (Nat.le_trans hm (by decide))) hd (k X)
theorem AOps.g_make {st : St} (k : AOps ro P nt ops Q (⟨dst, .makeSlice t x y, ty, pos, after, g⟩ :: rest) st) : AOps ro P nt ops Q (⟨dst, .makeSlice t x y, ty, pos, after, g⟩ :: rest) st := k
end
end Go.Proofs.Ytfkppbkipbbmaaa

namespace Go.Proofs.Ytfkppbkipbbmaaa
set_option linter.unusedVariables false
theorem Ends.void {P : Program} {Sf : List Slot} {Q : AV → List Slot → Prop} {st : St} (S' : List Slot) (hQ : Q (.tup []) S') (hS : (S' ++ Sf).Sublist st.S := by (repeat (first | exact List.Sublist.refl _ | exact List.Sublist.slnil | apply List.Sublist.cons_cons | apply List.Sublist.cons))) : Ends P [] Sf Q st := ⟨[], [], st.S, S', .nil, .nil, hS, hQ⟩
/-- What reads as the first value reads as the second one, too. -/
inductive Sub1 : AV → AV → Prop
  | refl {a : AV} : Sub1 a a
  | nil {t : TypeId} {sz : Nat} : Sub1 (.prim (.slice none 0 0)) (.lst false t sz [])
inductive Subs : List AV → List AV → Prop
  | nil : Subs [] []
  | cons {a b : AV} {as bs : List AV} (h : Sub1 a b) (k : Subs as bs) : Subs (a :: as) (b :: bs)
theorem Subs.vts {m : Mem} {as bs : List AV} (h : Subs as bs) : ∀ {us : List Value}, VTs m as us [] → VTs m bs us [] := by
  induction h with
  | nil => exact fun h => h
  | @cons a b as bs h k ih =>
    intro us hv
    obtain ⟨v, vs', b1, b2, rfl, e, h1, h2⟩ := (VTs_cons hv.ntup).1 hv
    obtain ⟨rfl, rfl⟩ : b1 = [] ∧ b2 = [] := by simpa using e.symm
    cases h with
    | refl => exact (VTs_cons hv.ntup).2 ⟨v, vs', [], [], rfl, rfl, h1, ih h2⟩
    | nil =>
      refine (VTs_cons rfl).2 ⟨v, vs', [], [], rfl, rfl, ?_, ih h2⟩
      obtain ⟨⟨h3, _⟩, _⟩ := h1
      injection h3 with h3
      subst h3
      exact ⟨rfl, none, 0, rfl, Nat.le_refl _, fun e he => (by cases he), fun h0 => absurd h0 (by simp)⟩
theorem Spec.arg {P : Program} {f : FuncId} {args args' : List AV} {S : List Slot} {Q : AV → List Slot → Prop} (h : Spec P f args S Q) (k : Subs args' args) : Spec P f args' S Q :=
  ⟨h.fn, fun Sf m N Z vals h1 h2 h3 => h.run Sf m N Z vals h1 h2 (k.vts h3)⟩
theorem PS.arg {P : Program} {f : FuncId} {args args' : List AV} {r : AV} (h : PS P f args r) (k : Subs args' args := by (repeat (first | exact .nil | refine .cons .refl ?_ | refine .cons .nil ?_))) : PS P f args' r := Spec.arg h k
theorem PO.arg {P : Program} {f : FuncId} {args args' : List AV} {X : Nat} {o o' : AO} {r : AV} (h : PO P f args X o r o') (k : Subs args' args := by (repeat (first | exact .nil | refine .cons .refl ?_ | refine .cons .nil ?_))) : PO P f args' X o r o' := Spec.arg h k
end Go.Proofs.Ytfkppbkipbbmaaa

namespace Go.Proofs.Ytfkppbkipbbmaaa
set_option linter.unusedVariables false
set_option linter.unusedSimpArgs false
variable {ro : Option Nat}
open Go.RowKit

/-! ### several places of a list -/
def setZ {β : Type} (Z : List β) : List (Nat × β) → List β
  | [] => Z
  | q :: r => setZ (Z.set q.1 q.2) r
theorem setZ_len {β : Type} (wz : List (Nat × β)) : ∀ Z : List β, (setZ Z wz).length = Z.length := by
  induction wz with
  | nil => intro Z; rfl
  | cons q r ih => intro Z; simp [setZ, ih]
theorem setZ_ne {β : Type} (wz : List (Nat × β)) {p : Nat} (h : p ∉ wz.map (·.1)) : ∀ Z : List β, (setZ Z wz)[p]? = Z[p]? := by
  induction wz with
  | nil => intro Z; rfl
  | cons q r ih =>
    intro Z
    simp only [List.map_cons, List.mem_cons, not_or] at h
    rw [setZ, ih h.2, List.getElem?_set_ne (fun e => h.1 e.symm)]
theorem setZ_at {β : Type} (wz : List (Nat × β)) (hnd : (wz.map (·.1)).Nodup) : ∀ Z : List β, (∀ q ∈ wz, q.1 < Z.length) → ∀ q ∈ wz, (setZ Z wz)[q.1]? = some q.2 := by
  induction wz with
  | nil => intro Z _ q hq; cases hq
  | cons a r ih =>
    intro Z hlt q hq
    rw [List.map_cons, List.nodup_cons] at hnd
    rcases List.mem_cons.1 hq with rfl | hq
    · rw [setZ, setZ_ne r hnd.1, List.getElem?_set_self (hlt _ (by simp))]
    · exact ih hnd.2 _ (fun q hq => by rw [List.length_set]; exact hlt q (by simp [hq])) q hq
theorem setZ_map {β α : Type} (f : β → α) (wz : List (Nat × β)) : ∀ Z : List β, (setZ Z wz).map f = setZ (Z.map f) (wz.map fun q => (q.1, f q.2)) := by
  induction wz with
  | nil => intro Z; rfl
  | cons q r ih => intro Z; simp [setZ, ih, List.map_set]
theorem setAll_setZ (wS : List (Nat × Slot)) : ∀ S, setAll S wS = setZ S wS := by
  induction wS with
  | nil => intro S; rfl
  | cons q r ih => intro S; exact ih _
theorem perm_of_mem {l k : List Nat} (hl : l.Nodup) (hk : k.Nodup) (h : ∀ x, x ∈ l ↔ x ∈ k) : l.Perm k := by
  rw [List.perm_iff_count]
  intro a
  rw [hl.count, hk.count]
  simp only [h a]
theorem map_range_get {β : Type} (Z : List β) : (List.range Z.length).map (fun i => Z[i]?) = Z.map some := by
  apply List.ext_getElem (by simp)
  intro i h1 h2
  have : i < Z.length := by simpa using h1
  simp [this]
/-- The places ps of a list, and the rest. -/
theorem perm_gets {β : Type} (Z : List β) (ps : List Nat) (hnd : ps.Nodup) (hlt : ∀ p ∈ ps, p < Z.length) : ∃ R, ∀ wz : List (Nat × β), wz.map (·.1) = ps → (setZ Z wz).Perm (wz.map (·.2) ++ R) := by
  let Q := (List.range Z.length).filter fun i => !decide (i ∈ ps)
  refine ⟨Q.filterMap fun i => Z[i]?, fun wz hw => ?_⟩
  have hwn : (wz.map (·.1)).Nodup := by rw [hw]; exact hnd
  have hwl : ∀ q ∈ wz, q.1 < Z.length := fun q hq => hlt _ (by rw [← hw]; exact List.mem_map_of_mem hq)
  have h1 : (List.range Z.length).Perm (ps ++ Q) := by
    refine (List.filter_append_perm (fun i => decide (i ∈ ps)) (List.range Z.length)).symm.trans ?_
    refine List.Perm.append_right _ (perm_of_mem (List.nodup_range.filter _) hnd fun x => ?_)
    simp only [List.mem_filter, List.mem_range, decide_eq_true_eq]
    exact ⟨fun h => h.2, fun h => ⟨hlt x h, h⟩⟩
  have h2 : ((setZ Z wz).map some).Perm ((ps ++ Q).map fun i => (setZ Z wz)[i]?) := by
    rw [← map_range_get, setZ_len]
    exact h1.map _
  have h3 : ps.map (fun i => (setZ Z wz)[i]?) = (wz.map (·.2)).map some := by
    rw [← hw, List.map_map, List.map_map]
    exact List.map_congr_left fun q hq => setZ_at wz hwn Z hwl q hq
  have h4 : Q.map (fun i => (setZ Z wz)[i]?) = (Q.filterMap fun i => Z[i]?).map some := by
    have : ∀ L : List Nat, (∀ i ∈ L, i ∉ ps ∧ i < Z.length) → L.map (fun i => (setZ Z wz)[i]?) = (L.filterMap fun i => Z[i]?).map some := by
      intro L
      induction L with
      | nil => intro _; rfl
      | cons i L ih =>
        intro h
        have hi := h i (by simp)
        rw [List.map_cons, ih fun j hj => h j (by simp [hj]), setZ_ne wz (by rw [hw]; exact hi.1), List.getElem?_eq_getElem hi.2, List.filterMap_cons, List.getElem?_eq_getElem hi.2]
        rfl
    refine this Q fun i hi => ?_
    have := List.mem_filter.1 hi
    simpa using And.comm.1 this
  rw [List.map_append, h3, h4, ← List.map_append] at h2
  have h5 := h2.filterMap id
  simpa [List.filterMap_map] using h5

/-! ### what a value owns becomes objects -/
inductive TW : AV → AV → List Slot → Prop
  | frz {a : AV} : TW a a.frz []
  | lst {t : TypeId} {sz : Nat} {l : List AV} {Y n : Nat} (h : n = l.length) : TW (.lst true t sz l) (.sl Y 0 n) [(Y, .row t sz l)]
  | bx {t : TypeId} {a : AV} {Y n : Nat} (h : n = a.width) : TW (.bx t a) (.ptr Y 0 0) [(Y, .row t n [a])]
inductive TWs : List AV → List AV → List Slot → Prop
  | nil : TWs [] [] []
  | cons {a b : AV} {as bs : List AV} {s r : List Slot} (h : TW a b s) (k : TWs as bs r) : TWs (a :: as) (b :: bs) (s ++ r)
inductive TV : AV → AV → List Slot → Prop
  | cell {a b : AV} {s : List Slot} (h : TW a b s) (ha : cellish a = true) (hb : cellish b = true) : TV a b s
  | agg {as bs : List AV} {s : List Slot} (h : TWs as bs s) : TV (.agg as) (.agg bs) s
inductive TVs : List AV → List AV → List Slot → Prop
  | nil : TVs [] [] []
  | cons {a b : AV} {as bs : List AV} {s r : List Slot} (h : TV a b s) (ha : ntup a = true) (hb : ntup b = true) (k : TVs as bs r) : TVs (a :: as) (b :: bs) (s ++ r)
inductive TR : AV → AV → List Slot → Prop
  | frz {a : AV} : TR a a.frz []
  | v {a b : AV} {s : List Slot} (h : TV a b s) : TR a b s
  | tup {as bs : List AV} {s : List Slot} (h : TVs as bs s) : TR (.tup as) (.tup bs) s
def gones (s : List Slot) : List Slot := s.map fun e => (e.1, .gone)
theorem Good.perm_ex {m0 m : Mem} {N : Nat} {Z : Zs} {ex ex' : List Nat} (G : Good m0 m N Z ex) (h : ex.Perm ex') : Good m0 m N Z ex' :=
  ⟨G.obj, ((h.append_left _).nodup_iff).1 G.own, fun b hb => G.blk b ((h.append_left _).mem_iff.2 hb), G.frz, G.keys, G.keyN, G.usedN, G.le, G.os, G.tape, G.output, G.size⟩
section
variable {m0 m : Mem} {N : Nat} {R : Zs} {ex : List Nat}
/-- Blocks on the side become a new object at a stamp that was kept. -/
theorem Good.own1 {Y : Nat} {bsY br : List Nat} {t : TypeId} {sz : Nat} {l : List AV} (G : Good m0 m N (((Y, .gone), bsY) :: R) (br ++ ex)) (L : Loc) (hL : L.sz = sz)
    (h : (L.isNil = true ∧ l = [] ∧ br = []) ∨ (L.isNil = false ∧ ∃ arr bs', br = L.blk :: bs' ∧ m.w.heap[L.blk]? = some (.cells arr t (0, 0)) ∧ arr.size = L.cap * sz ∧ l.length ≤ L.cap ∧ L.cap ≤ maxLen ∧ (∀ e ∈ l, e.width = sz) ∧ VCs m l (arr.toList.take (l.length * sz)) bs')) :
    Good m0 ⟨fun y => if y = Y then some L else m.μ y, fun y => m.U y ∨ y = Y, m.w, m.F⟩ N (((Y, .row t sz l), br) :: R) ex ∧ m.Le ⟨fun y => if y = Y then some L else m.μ y, fun y => m.U y ∨ y = Y, m.w, m.F⟩ := by
  have hg := G.obj _ (List.mem_cons_self ..)
  obtain ⟨rfl, hYU⟩ := hg
  have hle : m.Le ⟨fun y => if y = Y then some L else m.μ y, fun y => m.U y ∨ y = Y, m.w, m.F⟩ := by
    refine ⟨fun y h => .inl h, fun y L' hy hL => ?_, fun b hb => ⟨hb, rfl⟩⟩
    simp only at hL
    split at hL
    · rename_i e; subst e; exact absurd hy hYU
    · exact hL
  refine ⟨?_, hle⟩
  have hkN : Y < N := G.keyN Y (by simp [Zs.keys])
  have hown : (br ++ ex).Nodup := by
    have := G.own
    rw [List.nodup_append] at this
    exact this.2.1
  refine Good.swap (zs := [((Y, .gone), [])]) (zs' := [((Y, .row t sz l), br)]) (R := R) G hle (Nat.le_refl _) (fun y hy _ => ?_) (fun _ _ _ _ => rfl) ?_ (by simpa [Zs.own] using hown) (fun b hb => ?_) (fun b hb => ⟨G.frz b hb, .inl hb⟩) (by simp [Zs.keys]) (fun y hy => ?_) (fun y hy => ?_) rfl rfl rfl (Nat.le_refl _)
  · simp only [Zs.keys, List.map_cons, List.map_nil, List.mem_singleton] at hy
    simp only
    rw [if_neg hy]
  · intro z hz
    simp only [List.mem_singleton] at hz
    subst hz
    refine ⟨.inr rfl, L, by simp, hL, ?_⟩
    rcases h with h | ⟨h1, arr, bs', e1, e2, e3, e4, e5, e6, e7⟩
    · exact .inl h
    · exact .inr ⟨h1, arr, bs', e1, e2, e3, e4, e5, e6, VCs.mono hle l (fun _ _ => rfl) e7⟩
  · have hb' : b ∈ br ++ ex := by simpa [Zs.own] using hb
    have := G.blk b (List.mem_append_right _ hb')
    exact ⟨this.1, this.2, .inr (.inl hb')⟩
  · simp only [Zs.keys, List.map_cons, List.map_nil, List.mem_singleton] at hy
    subst hy
    exact ⟨hkN, .inl (by simp [Zs.keys])⟩
  · rcases hy with hy | rfl
    · exact ⟨G.usedN y hy, .inl hy⟩
    · exact ⟨hkN, .inr (.inl (by simp [Zs.keys]))⟩
theorem TW.sound {a b : AV} {s : List Slot} (h : TW a b s) : ∀ {m : Mem} {br ex : List Nat} {G : Zs} {c : List Value}, G.map (·.1) = gones s → Good m0 m N (G ++ R) (br ++ ex) → VC m a c br →
    ∃ m' Z', m'.w = m.w ∧ Z'.map (·.1) = s ∧ Good m0 m' N (Z' ++ R) ex ∧ m.Le m' ∧ VC m' b c [] := by
  intro m br ex G c hG g hv
  cases h with
  | frz =>
    have : G = [] := by simpa [gones] using hG
    subst this
    obtain ⟨G2, hle⟩ := g.freeze _ rfl
    exact ⟨{ m with F := fun b => m.F b ∨ b ∈ br }, [], rfl, rfl, G2, hle, VC.frz hle a (fun b hb => ⟨.inr hb, rfl⟩) hv⟩
  | @lst t sz l Y n hn =>
    cases G with
    | nil => simp [gones] at hG
    | cons z G =>
      simp only [gones, List.map_cons, List.map_nil, List.cons.injEq, List.map_eq_nil_iff] at hG
      obtain ⟨hz, rfl⟩ := hG
      obtain ⟨⟨y, o⟩, bsY⟩ := z
      simp only [Prod.mk.injEq] at hz
      obtain ⟨rfl, rfl⟩ := hz
      rcases hv with ⟨rfl, rfl, rfl⟩ | ⟨gb, cap, arr, bs', rfl, rfl, e1, e2, e3, e4, e5, e6⟩
      · obtain ⟨G', hle⟩ := Good.own1 (br := []) (t := t) (sz := sz) (l := []) g ⟨0, 0, sz, true⟩ rfl (.inl ⟨rfl, rfl, rfl⟩)
        refine ⟨(⟨fun x => if x = y then some ⟨0, 0, sz, true⟩ else m.μ x, fun x => m.U x ∨ x = y, m.w, m.F⟩ : Mem), [((y, .row t sz []), [])], rfl, rfl, G', hle, rfl, .inr rfl, none, 0, by rw [hn]; rfl, fun L hL => ?_⟩
        simp only [if_true, Option.some.injEq] at hL
        subst hL
        exact .inl ⟨rfl, by rw [hn]; rfl, rfl, hn⟩
      · obtain ⟨G', hle⟩ := Good.own1 (br := gb :: bs') (t := t) (sz := sz) (l := l) g ⟨gb, cap, sz, false⟩ rfl (.inr ⟨rfl, arr, bs', rfl, e1, e2, e3, e4, e5, e6⟩)
        refine ⟨(⟨fun x => if x = y then some ⟨gb, cap, sz, false⟩ else m.μ x, fun x => m.U x ∨ x = y, m.w, m.F⟩ : Mem), [((y, .row t sz l), gb :: bs')], rfl, rfl, G', hle, rfl, .inr rfl, _, cap, by rw [hn], fun L hL => ?_⟩
        simp only [if_true, Option.some.injEq] at hL
        subst hL
        exact .inr ⟨rfl, by simp only; omega, 0, by simp, fun _ => by simp⟩
  | @bx t a Y n hn =>
    cases G with
    | nil => simp [gones] at hG
    | cons z G =>
      simp only [gones, List.map_cons, List.map_nil, List.cons.injEq, List.map_eq_nil_iff] at hG
      obtain ⟨hz, rfl⟩ := hG
      obtain ⟨⟨y, o⟩, bsY⟩ := z
      simp only [Prod.mk.injEq] at hz
      obtain ⟨rfl, rfl⟩ := hz
      obtain ⟨gb, arr, bs', rfl, rfl, e1, ⟨cap, e2, e3, e4⟩, e5⟩ := hv
      subst hn
      obtain ⟨G', hle⟩ := Good.own1 (br := gb :: bs') (t := t) (sz := a.width) (l := [a]) g ⟨gb, cap, a.width, false⟩ rfl (.inr ⟨rfl, arr, bs', rfl, e1, e2, e3, e4, fun e he => by rw [List.mem_singleton.1 he], by simpa using VCs.one.2 e5⟩)
      refine ⟨(⟨fun x => if x = y then some ⟨gb, cap, a.width, false⟩ else m.μ x, fun x => m.U x ∨ x = y, m.w, m.F⟩ : Mem), [((y, .row t a.width [a]), gb :: bs')], rfl, rfl, G', hle, rfl, .inr rfl, _, rfl, fun L hL => ?_⟩
      simp only [if_true, Option.some.injEq] at hL
      subst hL
      simp
theorem TWs.sound {as bs : List AV} {s : List Slot} (h : TWs as bs s) : ∀ {R : Zs} {m : Mem} {br ex : List Nat} {G : Zs} {c : List Value}, G.map (·.1) = gones s → Good m0 m N (G ++ R) (br ++ ex) → VCs m as c br →
    ∃ m' Z', m'.w = m.w ∧ Z'.map (·.1) = s ∧ Good m0 m' N (Z' ++ R) ex ∧ m.Le m' ∧ VCs m' bs c [] := by
  induction h with
  | nil =>
    intro R m br ex G c hG g hv
    obtain ⟨rfl, rfl⟩ := hv
    have : G = [] := by simpa [gones] using hG
    subst this
    exact ⟨m, [], rfl, rfl, g, .refl _, rfl, rfl⟩
  | @cons a b as bs s r h k ih =>
    intro R m br ex G c hG g hv
    obtain ⟨c1, c2, b1, b2, rfl, rfl, h1, h2⟩ := hv
    rw [gones, List.map_append] at hG
    obtain ⟨G1, G2, rfl, hG1, hG2⟩ := slots_split hG
    obtain ⟨m1, Z1, hw1, hZ1, g1, hle1, v1⟩ := h.sound (R := G2 ++ R) (ex := b2 ++ ex) hG1 (by simpa using g) h1
    have g1' : Good m0 m1 N (G2 ++ (Z1 ++ R)) (b2 ++ ex) := g1.perm (by
      rw [← List.append_assoc, ← List.append_assoc]
      exact List.Perm.append_right _ List.perm_append_comm)
    obtain ⟨m2, Z2, hw2, hZ2, g2, hle2, v2⟩ := ih (R := Z1 ++ R) hG2 g1' (VCs.mono hle1 as (fun b _ => by rw [hw1]) h2)
    refine ⟨m2, Z1 ++ Z2, hw2.trans hw1, by simp [hZ1, hZ2], g2.perm (by
      rw [← List.append_assoc]
      exact List.Perm.append_right _ List.perm_append_comm), hle1.trans hle2, c1, c2, [], [], rfl, rfl, VC.mono hle2 b (fun _ hb => by cases hb) v1, v2⟩
theorem TV.sound {a b : AV} {s : List Slot} (h : TV a b s) : ∀ {R : Zs} {m : Mem} {br ex : List Nat} {G : Zs} {u : Value}, G.map (·.1) = gones s → Good m0 m N (G ++ R) (br ++ ex) → VV m a u br →
    ∃ m' Z', m'.w = m.w ∧ Z'.map (·.1) = s ∧ Good m0 m' N (Z' ++ R) ex ∧ m.Le m' ∧ VV m' b u [] := by
  intro R m br ex G u hG g hv
  cases h with
  | cell h ha hb =>
    obtain ⟨m', Z', h1, h2, h3, h4, h5⟩ := h.sound hG g ((VV.of_vc ha).1 hv)
    exact ⟨m', Z', h1, h2, h3, h4, (VV.of_vc hb).2 h5⟩
  | agg h =>
    obtain ⟨cells, rfl, hv⟩ := hv
    obtain ⟨m', Z', h1, h2, h3, h4, h5⟩ := h.sound hG g hv
    exact ⟨m', Z', h1, h2, h3, h4, cells, rfl, h5⟩
theorem TVs.sound {as bs : List AV} {s : List Slot} (h : TVs as bs s) : ∀ {R : Zs} {m : Mem} {br ex : List Nat} {G : Zs} {us : List Value}, G.map (·.1) = gones s → Good m0 m N (G ++ R) (br ++ ex) → VTs m as us br →
    ∃ m' Z', m'.w = m.w ∧ Z'.map (·.1) = s ∧ Good m0 m' N (Z' ++ R) ex ∧ m.Le m' ∧ VTs m' bs us [] := by
  induction h with
  | nil =>
    intro R m br ex G c hG g hv
    obtain ⟨rfl, rfl⟩ := hv
    have : G = [] := by simpa [gones] using hG
    subst this
    exact ⟨m, [], rfl, rfl, g, .refl _, rfl, rfl⟩
  | @cons a b as bs s r h ha hb k ih =>
    intro R m br ex G c hG g hv
    obtain ⟨u, us, b1, b2, rfl, rfl, h1, h2⟩ := (VTs_cons ha).1 hv
    rw [gones, List.map_append] at hG
    obtain ⟨G1, G2, rfl, hG1, hG2⟩ := slots_split hG
    obtain ⟨m1, Z1, hw1, hZ1, g1, hle1, v1⟩ := h.sound (R := G2 ++ R) (ex := b2 ++ ex) hG1 (by simpa using g) h1
    have g1' : Good m0 m1 N (G2 ++ (Z1 ++ R)) (b2 ++ ex) := g1.perm (by
      rw [← List.append_assoc, ← List.append_assoc]
      exact List.Perm.append_right _ List.perm_append_comm)
    obtain ⟨m2, Z2, hw2, hZ2, g2, hle2, v2⟩ := ih (R := Z1 ++ R) hG2 g1' (VTs.mono hle1 as (fun b _ => by rw [hw1]) h2)
    refine ⟨m2, Z1 ++ Z2, hw2.trans hw1, by simp [hZ1, hZ2], g2.perm (by
      rw [← List.append_assoc]
      exact List.Perm.append_right _ List.perm_append_comm), hle1.trans hle2, (VTs_cons hb).2 ⟨u, us, [], [], rfl, rfl, VV.mono hle2 (fun _ hb => by cases hb) v1, v2⟩⟩
theorem TR.sound {a b : AV} {s : List Slot} (h : TR a b s) {R : Zs} {m : Mem} {br ex : List Nat} {G : Zs} {u : Value} (hG : G.map (·.1) = gones s) (g : Good m0 m N (G ++ R) (br ++ ex)) (hv : VV m a u br) :
    ∃ m' Z', m'.w = m.w ∧ Z'.map (·.1) = s ∧ Good m0 m' N (Z' ++ R) ex ∧ m.Le m' ∧ VV m' b u [] := by
  cases h with
  | frz =>
    have : G = [] := by simpa [gones] using hG
    subst this
    obtain ⟨G2, hle⟩ := g.freeze _ rfl
    exact ⟨{ m with F := fun b => m.F b ∨ b ∈ br }, [], rfl, rfl, G2, hle, VV.frz hle (fun b hb => ⟨.inr hb, rfl⟩) hv⟩
  | v h => exact h.sound hG g hv
  | tup h =>
    obtain ⟨us, rfl, hv⟩ := hv
    obtain ⟨m', Z', h1, h2, h3, h4, h5⟩ := h.sound hG g hv
    exact ⟨m', Z', h1, h2, h3, h4, us, rfl, h5⟩
end

theorem setZ_same {β : Type} (wz : List (Nat × β)) : ∀ Z : List β, (∀ q ∈ wz, Z[q.1]? = some q.2) → setZ Z wz = Z := by
  induction wz with
  | nil => intro Z _; rfl
  | cons q r ih =>
    intro Z h
    have h1 := h q (by simp)
    obtain ⟨h2, h3⟩ := List.getElem?_eq_some_iff.1 h1
    have : Z.set q.1 q.2 = Z := by rw [← h3]; exact List.set_getElem_self h2
    rw [setZ, this]
    exact ih Z fun q hq => h q (by simp [hq])
section
variable {P : Program} {ty : TypeId} {pos : String} {after : Array Edge} {g : Option (Nat × Bool)} {dst : Option Tmp} {xs : List (Operand × AV)} {f : FuncId} {ats : Array TypeId} {r v : AV} {Sin Sout news : List Slot} {rS wS : List (Nat × Slot)}
/-- What a call does to a state: for a callee by name or a closure; the result may be one of several. -/
theorem callG_runE {β : Type} {C : β → Prop} {rr vv : β → AV} {So nw : β → List Slot} {gs : List Slot} {wE : β → List (Nat × Slot)} {nt : Nat} {m0 : Mem} {T : List (Nat × AV)} {S : List Slot} {a : Act} {args : List AV} {vals : Array Value} (h : Spec P f args Sin fun r' S' => ∃ b, C b ∧ r' = rr b ∧ S' = So b) (hT : ∀ b, TR (rr b) (vv b) (nw b)) (hgs : ∀ b, gones (nw b) = gs) (hr : rS.map (·.2) = Sin ++ gs) (hw : ∀ b, (wE b).map (·.2) = So b ++ nw b) (hp : ∀ b, (wE b).map (·.1) = rS.map (·.1)) (hnd : (rS.map (·.1)).Nodup)
    (hS : ∀ q ∈ rS, S[q.1]? = some q.2) (hd : ∀ d, dst = some d → d < nt) {m : Mem} {N : Nat} {Z : Zs} (h2 : Z.map (·.1) = S) (h3 : Good m0 m N Z []) (h4 : TRel m0 m nt T a) (hv : VTs m args vals.toList []) :
    Calls P f vals m.w fun e w' => ∃ u, e = .returned u ∧ ∃ b, C b ∧ Rel nt m0 ⟨putD T dst (vv b), setAll S (wE b)⟩ (a.put dst u) w' := by
  obtain ⟨RS, hR⟩ := perm_gets S (rS.map (·.1)) hnd (fun p hp => by
    obtain ⟨q, hq, rfl⟩ := List.mem_map.1 hp
    exact (List.getElem?_eq_some_iff.1 (hS q hq)).1)
  have p1 := hR rS rfl
  rw [setZ_same rS S hS, hr, List.append_assoc] at p1
  obtain ⟨Z1, hz1, hz2⟩ := perm_lift (fun z : Slot × List Nat => z.1) p1 h2
  refine (h.run _ m N Z1 vals hz2 (h3.perm hz1).self hv).mono ?_
  rintro e w' ⟨u, r', S', m', N', Z', br, rfl, rfl, hm, G', hu, b, hb, rfl, rfl⟩
  have p2 := hR (wE b) (hp b)
  rw [hw, List.append_assoc, ← setAll_setZ] at p2
  obtain ⟨Zo, Zr, rfl, ho, hzr⟩ := slots_split hm
  obtain ⟨Zg, Zf, rfl, hg, hf⟩ := slots_split hzr
  have G1 := h3.perm hz1 |>.after G'
  have G2 : Good m0 m' N' (Zg ++ (Zo ++ Zf)) (br ++ []) := by
    have := G1.perm (Z' := Zg ++ (Zo ++ Zf)) (by
      rw [← List.append_assoc, ← List.append_assoc]
      exact List.Perm.append_right _ List.perm_append_comm)
    simpa using this
  obtain ⟨m2, Zn, hw2, hn, G3, hle, hv2⟩ := (hT b).sound (hg.trans (hgs b).symm) G2 hu
  have G4 := G3.perm (Z' := Zo ++ (Zn ++ Zf)) (by
    rw [← List.append_assoc, ← List.append_assoc]
    exact List.Perm.append_right _ List.perm_append_comm)
  obtain ⟨Z3, hz3, hz4⟩ := perm_lift (fun z : Slot × List Nat => z.1) (S' := setAll S (wE b)) p2.symm (Z := Zo ++ (Zn ++ Zf)) (by simp [ho, hn, hf])
  exact ⟨u, rfl, b, hb, m2, N', Z3, hw2, hz4, G4.perm hz3, ((h4.mono G'.le).mono hle).put hd hv2⟩
theorem callG_run {nt : Nat} {m0 : Mem} {T : List (Nat × AV)} {S : List Slot} {a : Act} {args : List AV} {vals : Array Value} (h : Spec P f args Sin fun r' S' => r' = r ∧ S' = Sout) (hT : TR r v news) (hr : rS.map (·.2) = Sin ++ gones news) (hw : wS.map (·.2) = Sout ++ news) (hp : wS.map (·.1) = rS.map (·.1)) (hnd : (rS.map (·.1)).Nodup)
    (hS : ∀ q ∈ rS, S[q.1]? = some q.2) (hd : ∀ d, dst = some d → d < nt) {m : Mem} {N : Nat} {Z : Zs} (h2 : Z.map (·.1) = S) (h3 : Good m0 m N Z []) (h4 : TRel m0 m nt T a) (hv : VTs m args vals.toList []) :
    Calls P f vals m.w fun e w' => ∃ u, e = .returned u ∧ Rel nt m0 ⟨putD T dst v, setAll S wS⟩ (a.put dst u) w' :=
  (callG_runE (β := Unit) (C := fun _ => True) (rr := fun _ => r) (vv := fun _ => v) (So := fun _ => Sout) (nw := fun _ => news) (wE := fun _ => wS) (h.mono fun r' S' ⟨e1, e2⟩ => ⟨(), trivial, e1, e2⟩) (fun _ => hT) (fun _ => rfl) hr (fun _ => hw) (fun _ => hp) hnd hS hd h2 h3 h4 hv).mono fun e w' ⟨u, e1, _, _, k⟩ => ⟨u, e1, k⟩
theorem wpIn_fwE {β : Type} {C : β → Prop} {sE : β → St} {ro : Option Nat} {nt : Nat} {m0 : Mem} {o : Oper} {a : Act} {w : World} {K : Act → World → Prop} {Q : Exit → Act → World → Prop} (hnd : ∀ c, o.op ≠ .defer c) (h : o.wp P a w (fun a' w' => ∃ b, C b ∧ Rel nt m0 (sE b) a' w') (fun _ _ _ => False)) (hK : ∀ a' w', (∃ b, C b ∧ Rel nt m0 (sE b) a' w') → K a' w') : o.wpIn (FW ro) 0 P a w K Q := by
  refine ⟨fun _ _ => trivial, ?_⟩
  rw [show o.semAt (FW ro).round a.eval = execOp a.eval o from Oper.semAt_eq _ _ _ hnd]
  unfold Oper.wp at h
  cases hr : (execOp a.eval o).run P w with
  | ok n w' =>
    rw [hr] at h
    cases n <;> simp only [Oper.upon, Oper.uponIn] at h ⊢ <;>
      first
        | exact hK _ _ h
        | exact ⟨fun h => (by simp [FW, Fence.wide] at h), CallsIn.mono (calls_fw h) (fun e w'' he => by cases e <;> first | exact hK _ _ he | exact he.elim | exact (by obtain ⟨_, _, hh⟩ := he; exact hh.elim))⟩
        | exact ⟨fun h => (by simp [FW, Fence.wide] at h), RowsIn.mono (rows_fw h) (fun _ _ he => hK _ _ he)⟩
  | halt x w' => rw [hr] at h; cases x <;> simp only [Oper.upon] at h
theorem OpT.callG (h : Spec P f (xs.map (·.2)) Sin fun r' S' => r' = r ∧ S' = Sout) (ht : noTup xs = true) (hT : TR r v news) (hr : rS.map (·.2) = Sin ++ gones news) (hw : wS.map (·.2) = Sout ++ news) (hp : wS.map (·.1) = rS.map (·.1)) (hnd : (rS.map (·.1)).Nodup) :
    OpT P ⟨dst, .call ⟨.value (.func f), (xs.map (·.1)).toArray, ats⟩, ty, pos, after, g⟩ xs rS v wS := by
  intro nt m0 T S a w hx hS hd hrel
  obtain ⟨m, N, Z, rfl, h2, h3, h4⟩ := hrel
  refine wp_call (fun _ => rfl) h.fn ?_
  exact callG_run h hT hr hw hp hnd hS hd h2 h3 h4 (by have := vts_of (noTup_spec ht) fun q hq => h4.ev (hx q hq); simpa [Function.comp_def] using this)
theorem OpT.callCG {x : Operand} {cap : List AV} (h : Spec P f (xs.map (·.2) ++ cap) Sin fun r' S' => r' = r ∧ S' = Sout) (hs : st1s cap = true) (ht : noTup xs = true) (hT : TR r v news) (hr : rS.map (·.2) = Sin ++ gones news) (hw : wS.map (·.2) = Sout ++ news) (hp : wS.map (·.1) = rS.map (·.1)) (hnd : (rS.map (·.1)).Nodup) :
    OpT P ⟨dst, .call ⟨.value x, (xs.map (·.1)).toArray, ats⟩, ty, pos, after, g⟩ ((x, .fn f cap) :: xs) rS v wS := by
  intro nt m0 T S a w hx hS hd hrel
  obtain ⟨m, N, Z, rfl, h2, h3, h4⟩ := hrel
  obtain ⟨vs, e1, h5⟩ := h4.ev (hx (x, .fn f cap) (by simp))
  injection e1 with e1
  refine wp_callV e1 h.fn ?_
  exact callG_run h hT hr hw hp hnd hS hd h2 h3 h4 (by
    have := vts_app (vts_of (noTup_spec ht) fun q hq => h4.ev (hx q (by simp [hq]))) (vts_cap hs h5)
    simpa [Function.comp_def] using this)
inductive Pos (S : List Slot) : List Slot → List Slot → List (Nat × Slot) → List (Nat × Slot) → Prop
  | nil : Pos S [] [] [] []
  | cons {a b : Slot} {as bs : List Slot} {rs ws : List (Nat × Slot)} {p : Nat} (h : At S p a) (k : Pos S as bs rs ws) : Pos S (a :: as) (b :: bs) ((p, a) :: rs) ((p, b) :: ws)
theorem Pos.all {S as bs : List Slot} {rs ws : List (Nat × Slot)} (h : Pos S as bs rs ws) : rs.map (·.2) = as ∧ ws.map (·.2) = bs ∧ ws.map (·.1) = rs.map (·.1) ∧ Gets S rs := by
  induction h with
  | nil => exact ⟨rfl, rfl, rfl, .nil⟩
  | cons h k ih => exact ⟨by simp [ih.1], by simp [ih.2.1], by simp [ih.2.2.1], .cons h ih.2.2.2⟩
/-- A call of which the result is one of several. -/
theorem AOps.callE {β : Type} {C : β → Prop} {rr vv : β → AV} {So nw : β → List Slot} {gs : List Slot} {wE : β → List (Nat × Slot)} {nt : Nat} {ops : Array Oper} {Q : Exit → St → Prop} {rest : List Oper} {T : List (Nat × AV)} {S : List Slot} (h : Spec P f (xs.map (·.2)) Sin fun r' S' => ∃ b, C b ∧ r' = rr b ∧ S' = So b) (hT : ∀ b, TR (rr b) (vv b) (nw b)) (hgs : ∀ b, gones (nw b) = gs) (hpos : ∀ b, Pos S (Sin ++ gs) (So b ++ nw b) rS (wE b)) (hnd : (rS.map (·.1)).Nodup) (hr : rS.map (·.2) = Sin ++ gs) (hG : Gets S rS) (hx : Evs T xs) (ht : noTup xs = true) (hd : dstOk dst nt = true)
    (k : ∀ b, C b → AOps ro P nt ops Q rest ⟨putD T dst (vv b), setAll S (wE b)⟩) : AOps ro P nt ops Q (⟨dst, .call ⟨.value (.func f), (xs.map (·.1)).toArray, ats⟩, ty, pos, after, none⟩ :: rest) ⟨T, S⟩ := by
  rintro m0 a w ⟨m, N, Z, rfl, h2, h3, h4⟩
  refine wpListIn_plain rfl fun K hK => wpIn_fwE (C := C) (sE := fun b => ⟨putD T dst (vv b), setAll S (wE b)⟩) (by simp) (wp_call (fun _ => rfl) h.fn (callG_runE h hT hgs hr (fun b => (hpos b).all.2.1) (fun b => (hpos b).all.2.2.1) hnd hG.all (dstOk_lt hd) h2 h3 h4 ?_)) fun a' w' ⟨b, hb, hrel⟩ => hK _ _ (k b hb m0 _ _ hrel)
  have := vts_of (noTup_spec ht) fun q hq => h4.ev (hx.all q hq)
  simpa [Function.comp_def] using this
theorem TR.fz {r v : AV} [h : Frz r v] : TR r v [] := h.h ▸ .frz
theorem TR.ls {t : TypeId} {sz : Nat} {l : List AV} {Y : Nat} : TR (.lst true t sz l) (.sl Y 0 l.length) [(Y, .row t sz l)] := .v (.cell (.lst rfl) rfl rfl)
theorem TR.bp {t : TypeId} {a : AV} {Y n : Nat} (h : n = a.width := by rfl) : TR (.bx t a) (.ptr Y 0 0) [(Y, .row t n [a])] := .v (.cell (.bx h) rfl rfl)
end
/-! ### one cell of a row's values -/
mutual
/-- The cell a of a value is b in the other one. -/
inductive Ho (a b : AV) : AV → AV → Prop
  | here : Ho a b a b
  | agg {as bs : List AV} (h : Hos a b as bs) : Ho a b (.agg as) (.agg bs)
inductive Hos (a b : AV) : List AV → List AV → Prop
  | head {x y : AV} {as : List AV} (h : Ho a b x y) : Hos a b (x :: as) (y :: as)
  | tail {x : AV} {as bs : List AV} (h : Hos a b as bs) : Hos a b (x :: as) (x :: bs)
end
mutual
theorem Ho.vc {a b : AV} {m : Mem} : {x y : AV} → Ho a b x y → {c : List Value} → {bs : List Nat} → VC m x c bs →
    ∃ c0 B bs', bs.Perm (B ++ bs') ∧ VC m a c0 B ∧ ∀ m' B', m.Le m' → m'.w = m.w → VC m' b c0 B' → ∃ bs2, bs2.Perm (B' ++ bs') ∧ VC m' y c bs2
  | _, _, .here, c, bs, h => ⟨c, bs, [], by simp, h, fun m' B' _ _ k => ⟨B', by simp, k⟩⟩
  | _, _, .agg h, c, bs, k => Hos.vcs h k
theorem Hos.vcs {a b : AV} {m : Mem} : {x y : List AV} → Hos a b x y → {c : List Value} → {bs : List Nat} → VCs m x c bs →
    ∃ c0 B bs', bs.Perm (B ++ bs') ∧ VC m a c0 B ∧ ∀ m' B', m.Le m' → m'.w = m.w → VC m' b c0 B' → ∃ bs2, bs2.Perm (B' ++ bs') ∧ VCs m' y c bs2
  | _, _, .head (as := as) h, _, _, ⟨c1, c2, b1, b2, e1, e2, h1, h2⟩ => by
    obtain ⟨c0, B, bs', hp, hv, k⟩ := Ho.vc h h1
    refine ⟨c0, B, bs' ++ b2, by rw [e2, ← List.append_assoc]; exact hp.append_right _, hv, fun m' B' hle hw hb => ?_⟩
    obtain ⟨bs2, hp2, hv2⟩ := k m' B' hle hw hb
    exact ⟨bs2 ++ b2, by rw [← List.append_assoc]; exact hp2.append_right _, c1, c2, bs2, b2, e1, rfl, hv2, VCs.mono hle as (fun _ _ => by rw [hw]) h2⟩
  | _, _, .tail (x := x) h, _, _, ⟨c1, c2, b1, b2, e1, e2, h1, h2⟩ => by
    obtain ⟨c0, B, bs', hp, hv, k⟩ := Hos.vcs h h2
    refine ⟨c0, B, b1 ++ bs', ?_, hv, fun m' B' hle hw hb => ?_⟩
    · rw [e2]
      refine (hp.append_left _).trans ?_
      rw [← List.append_assoc, ← List.append_assoc]
      exact List.perm_append_comm.append_right _
    · obtain ⟨bs2, hp2, hv2⟩ := k m' B' hle hw hb
      refine ⟨b1 ++ bs2, ?_, c1, c2, b1, bs2, e1, rfl, VC.mono hle x (fun _ _ => by rw [hw]) h1, hv2⟩
      refine (hp2.append_left _).trans ?_
      rw [← List.append_assoc, ← List.append_assoc]
      exact List.perm_append_comm.append_right _
end
mutual
theorem Ho.width {a b : AV} (h0 : b.width = a.width) : {x y : AV} → Ho a b x y → y.width = x.width
  | _, _, .here => h0
  | _, _, .agg h => Hos.widths h0 h
theorem Hos.widths {a b : AV} (h0 : b.width = a.width) : {x y : List AV} → Hos a b x y → AV.widths y = AV.widths x
  | _, _, .head h => by simp only [AV.widths]; rw [Ho.width h0 h]
  | _, _, .tail h => by simp only [AV.widths]; rw [Hos.widths h0 h]
end
theorem Hos.len {a b : AV} {x y : List AV} (h : Hos a b x y) : y.length = x.length := by
  induction x generalizing y with
  | nil => cases h
  | cons e x ih => cases h with
    | head h => rfl
    | tail h => simp [ih h]
theorem Hos.wd {a b : AV} (h0 : b.width = a.width) {x y : List AV} {n : Nat} (h : Hos a b x y) (hw : ∀ e ∈ x, e.width = n) : ∀ e ∈ y, e.width = n := by
  induction x generalizing y with
  | nil => cases h
  | cons e x ih => cases h with
    | head h =>
      intro z hz
      rcases List.mem_cons.1 hz with rfl | hz
      · rw [h.width h0]; exact hw e (by simp)
      · exact hw z (by simp [hz])
    | tail h =>
      intro z hz
      rcases List.mem_cons.1 hz with rfl | hz
      · exact hw _ (by simp)
      · exact ih h (fun e he => hw e (by simp [he])) z hz
/-- A row of which one cell is turned. -/
theorem Hos.orel {a b : AV} {m : Mem} {Y : Nat} {t2 : TypeId} {sz2 : Nat} {l2 l2' : List AV} {bs : List Nat} (hI : Hos a b l2 l2') (h0 : b.width = a.width) (h : ORel m Y (.row t2 sz2 l2) bs) :
    ∃ c0 B bs', bs.Perm (B ++ bs') ∧ VC m a c0 B ∧ ∀ m' B', m.Le m' → m'.w = m.w → (∀ L, m.μ Y = some L → m'.μ Y = some L) → VC m' b c0 B' → ∃ bs2, bs2.Perm (B' ++ bs') ∧ ORel m' Y (.row t2 sz2 l2') bs2 := by
  obtain ⟨hU, L, h1, h2, h3⟩ := h
  rcases h3 with ⟨h4, rfl, h5⟩ | ⟨h4, arr, bs', h5, h6, h7, h8, h9, h10, h11⟩
  · cases hI
  · obtain ⟨c0, B, bs1, hp, hv, k⟩ := hI.vcs h11
    refine ⟨c0, B, L.blk :: bs1, ?_, hv, fun m' B' hle hw hμ hb => ?_⟩
    · rw [h5]; exact (hp.cons _).trans List.perm_middle.symm
    · obtain ⟨bs2, hp2, hv2⟩ := k m' B' hle hw hb
      refine ⟨L.blk :: bs2, (hp2.cons _).trans List.perm_middle.symm, hle.U _ hU, L, hμ L h1, h2, .inr ⟨h4, arr, bs2, rfl, by rw [hw]; exact h6, h7, by rw [hI.len]; exact h8, h9, hI.wd h0 h10, ?_⟩⟩
      rw [hI.len]; exact hv2
section
variable {m0 m : Mem} {N : Nat} {R : Zs} {ex : List Nat}
theorem Good.bag {z z' : Slot × List Nat} {B : List Nat} (G : Good m0 m N (z :: R) ex) (hk : z'.1.1 = z.1.1) (ho : ORel m z'.1.1 z'.1.2 z'.2) (hp : z.2.Perm (B ++ z'.2)) : Good m0 m N (z' :: R) (B ++ ex) := by
  have p1 : (Zs.own (z :: R) ++ ex).Perm (Zs.own (z' :: R) ++ (B ++ ex)) := by
    simp only [own_cons]
    refine ((hp.append_right _).append_right _).trans ?_
    rw [List.append_assoc, List.append_assoc, List.append_assoc]
    refine List.perm_append_comm.trans ?_
    simp only [List.append_assoc]
    refine List.Perm.append_left _ (List.Perm.append_left _ ?_)
    exact List.perm_append_comm
  refine ⟨?_, p1.nodup_iff.1 G.own, fun b hb => G.blk b (p1.mem_iff.2 hb), G.frz, ?_, ?_, G.usedN, G.le, G.os, G.tape, G.output, G.size⟩
  · intro q hq
    rcases List.mem_cons.1 hq with rfl | hq
    · exact ho
    · exact G.obj q (List.mem_cons_of_mem _ hq)
  · have := G.keys
    simpa [Zs.keys, hk] using this
  · intro x hx
    refine G.keyN x ?_
    simpa [Zs.keys, hk] using hx
/-- An own list as a new row. -/
theorem own_row {Y : Nat} {t : TypeId} {sz : Nat} {l : List AV} {c : List Value} {B : List Nat} (hY : ¬ m.U Y) (h : VC m (.lst true t sz l) c B) :
    ∃ m', (∀ x, x ≠ Y → m'.μ x = m.μ x) ∧ (∀ x, m'.U x ↔ (m.U x ∨ x = Y)) ∧ m'.w = m.w ∧ m'.F = m.F ∧ m.Le m' ∧ VC m' (.sl Y 0 l.length) c [] ∧ ORel m' Y (.row t sz l) B := by
  have key : ∀ L : Loc, m.Le ⟨fun x => if x = Y then some L else m.μ x, fun x => m.U x ∨ x = Y, m.w, m.F⟩ := fun L => by
    refine ⟨fun y h => .inl h, fun y L' hy hL => ?_, fun b hb => ⟨hb, rfl⟩⟩
    simp only at hL
    split at hL
    · rename_i e; subst e; exact absurd hy hY
    · exact hL
  rcases h with ⟨rfl, rfl, rfl⟩ | ⟨gb, cap, arr, bs', rfl, rfl, e1, e2, e3, e4, e5, e6⟩
  · refine ⟨⟨fun x => if x = Y then some ⟨0, 0, sz, true⟩ else m.μ x, fun x => m.U x ∨ x = Y, m.w, m.F⟩, fun x hx => by simp [hx], fun x => .rfl, rfl, rfl, key _, ⟨rfl, .inr rfl, none, 0, rfl, fun L hL => ?_⟩, .inr rfl, ⟨0, 0, sz, true⟩, by simp, rfl, .inl ⟨rfl, rfl, rfl⟩⟩
    simp only [if_true, Option.some.injEq] at hL
    subst hL
    exact .inl ⟨rfl, rfl, rfl, rfl⟩
  · refine ⟨⟨fun x => if x = Y then some ⟨gb, cap, sz, false⟩ else m.μ x, fun x => m.U x ∨ x = Y, m.w, m.F⟩, fun x hx => by simp [hx], fun x => .rfl, rfl, rfl, key _, ⟨rfl, .inr rfl, _, cap, rfl, fun L hL => ?_⟩, .inr rfl, ⟨gb, cap, sz, false⟩, by simp, rfl, .inr ⟨rfl, arr, bs', rfl, e1, e2, e3, e4, e5, VCs.mono (key _) l (fun _ _ => rfl) e6⟩⟩
    simp only [if_true, Option.some.injEq] at hL
    subst hL
    exact .inr ⟨rfl, by simp only; omega, 0, by simp, fun _ => by simp⟩
theorem nodup2 {A B ex : List Nat} {R : Zs} {z : Slot × List Nat} (G : Good m0 m N (z :: R) ex) (hp : z.2.Perm A) : (A ++ ex).Nodup ∧ ∀ b ∈ A ++ ex, b < m.w.heap.size ∧ ¬ m.F b ∧ (b ∈ z.2 ∨ b ∈ ex) := by
  have h := G.own
  simp only [own_cons] at h
  have h1 : (z.2 ++ ex).Nodup := by
    have : (z.2 ++ Zs.own R ++ ex).Perm ((z.2 ++ ex) ++ Zs.own R) := by
      rw [List.append_assoc, List.append_assoc]
      exact List.Perm.append_left _ List.perm_append_comm
    exact (List.nodup_append.1 (this.nodup_iff.1 h)).1
  refine ⟨(hp.append_right ex).nodup_iff.1 h1, fun b hb => ?_⟩
  have hb' := (hp.append_right ex).mem_iff.2 hb
  have := G.blk b (by simp only [own_cons]; rcases List.mem_append.1 hb' with h | h <;> simp [h])
  exact ⟨this.1, this.2, List.mem_append.1 hb'⟩
theorem nodupL {A ex : List Nat} {R zs : Zs} (G : Good m0 m N (zs ++ R) ex) (hp : zs.own.Perm A) : (A ++ ex).Nodup ∧ ∀ b ∈ A ++ ex, b < m.w.heap.size ∧ ¬ m.F b ∧ (b ∈ zs.own ∨ b ∈ ex) := by
  have h := G.own
  rw [own_append] at h
  have h1 : (zs.own ++ ex).Nodup := by
    have : (zs.own ++ Zs.own R ++ ex).Perm ((zs.own ++ ex) ++ Zs.own R) := by
      rw [List.append_assoc, List.append_assoc]
      exact List.Perm.append_left _ List.perm_append_comm
    exact (List.nodup_append.1 (this.nodup_iff.1 h)).1
  refine ⟨(hp.append_right ex).nodup_iff.1 h1, fun b hb => ?_⟩
  have hb' := (hp.append_right ex).mem_iff.2 hb
  have := G.blk b (by rw [own_append]; rcases List.mem_append.1 hb' with h | h <;> simp [h])
  exact ⟨this.1, this.2, List.mem_append.1 hb'⟩
/-- An own list inside a row's values becomes a row. -/
theorem Good.thawIn {Y : Nat} {t t2 : TypeId} {sz sz2 : Nat} {l l2 l2' : List AV} {bs : List Nat} (G : Good m0 m N (((Y, .row t2 sz2 l2), bs) :: R) ex) (hI : Hos (.lst true t sz l) (.sl N 0 l.length) l2 l2') :
    ∃ m' b1 b2, m'.w = m.w ∧ m.Le m' ∧ Good m0 m' (N + 1) (((N, .row t sz l), b1) :: ((Y, .row t2 sz2 l2'), b2) :: R) ex := by
  have hY : ORel m Y (.row t2 sz2 l2) bs := G.obj _ (List.mem_cons_self ..)
  have hYN : Y < N := G.keyN Y (by simp [Zs.keys])
  have hNU : ¬ m.U N := fun h => Nat.lt_irrefl _ (G.usedN _ h)
  obtain ⟨c0, B, bs', hp, hv, k⟩ := hI.orel rfl hY
  obtain ⟨m', hμ, hU, hw, hF, hle, hv', ho⟩ := own_row hNU hv
  obtain ⟨bs2, hp2, hoY⟩ := k m' [] hle hw (fun L hL => by rw [hμ Y (by omega)]; exact hL) hv'
  have hp3 : bs.Perm (B ++ bs2) := hp.trans (by simpa using hp2.symm.append_left B)
  obtain ⟨hn, hb⟩ := nodup2 (B := []) G hp3
  refine ⟨m', B, bs2, hw, hle, Good.swap (zs := [((Y, .row t2 sz2 l2), bs)]) (zs' := [((N, .row t sz l), B), ((Y, .row t2 sz2 l2'), bs2)]) (R := R) G hle (Nat.le_succ _) (fun x hx hxN => hμ x (by omega)) (fun b _ _ _ => by rw [hw]) ?_ (by simpa [Zs.own] using hn) (fun b h => ?_) (fun b h => ?_) ?_ ?_ (fun x hx => ?_) (by rw [hw]) (by rw [hw]) (by rw [hw]) (by rw [hw]; exact Nat.le_refl _)⟩
  · intro z hz
    simp only [List.mem_cons, List.not_mem_nil, or_false] at hz
    rcases hz with rfl | rfl
    · exact ho
    · exact hoY
  · obtain ⟨h1, h2, h3⟩ := hb b (by simpa [Zs.own] using h)
    rw [hw, hF]
    refine ⟨h1, h2, ?_⟩
    rcases h3 with h3 | h3
    · exact .inl (by simpa [Zs.own] using h3)
    · exact .inr (.inl h3)
  · rw [hF] at h
    rw [hw]
    exact ⟨G.frz b h, .inl h⟩
  · simp [Zs.keys]; omega
  · intro x hx
    simp only [Zs.keys, List.map_cons, List.map_nil, List.mem_cons, List.not_mem_nil, or_false] at hx
    rcases hx with rfl | rfl
    · exact ⟨by omega, .inr (Nat.le_refl _)⟩
    · exact ⟨by omega, .inl (by simp [Zs.keys])⟩
  · rcases (hU x).1 hx with hx | rfl
    · exact ⟨by have := G.usedN x hx; omega, .inl hx⟩
    · exact ⟨by omega, .inr (.inr (Nat.le_refl _))⟩
/-- A row becomes an own list inside another row's values. -/
theorem Good.closeIn {X Y n : Nat} {t t2 : TypeId} {sz sz2 : Nat} {l l2 l2' : List AV} {bX bs : List Nat} (G : Good m0 m N (((X, .row t sz l), bX) :: ((Y, .row t2 sz2 l2), bs) :: R) ex) (hn : n = l.length) (hI : Hos (.sl X 0 n) (.lst true t sz l) l2 l2') :
    ∃ m' b2, m'.w = m.w ∧ m.Le m' ∧ Good m0 m' N (((X, .used), []) :: ((Y, .row t2 sz2 l2'), b2) :: R) ex := by
  have hX : ORel m X (.row t sz l) bX := G.obj _ (List.mem_cons_self ..)
  have hY : ORel m Y (.row t2 sz2 l2) bs := G.obj ((Y, .row t2 sz2 l2), bs) (by simp)
  have hXY : Y ≠ X := by
    have := G.keys
    simp only [Zs.keys, List.map_cons, List.nodup_cons, List.mem_cons, not_or] at this
    exact fun e => this.1.1 e.symm
  let m' : Mem := ⟨fun x => if x = X then none else m.μ x, m.U, m.w, m.F⟩
  have hle : m.Le m' := by
    refine ⟨fun y h => h, fun y L' hy hL => ?_, fun b hb => ⟨hb, rfl⟩⟩
    simp only [m'] at hL
    split at hL
    · cases hL
    · exact hL
  obtain ⟨c0, B, bs', hp, hv, k⟩ := hI.orel rfl hY
  obtain ⟨rfl, hUX, A, q, rfl, hs⟩ := hv
  have hv' : VC m' (.lst true t sz l) [.slice A n q] bX := by
    obtain ⟨_, L, hL, hsz, hO⟩ := hX
    subst hn
    rcases hO with ⟨h1, rfl, rfl⟩ | ⟨h1, arr, bs', rfl, h2, h3, h4, h5, h6, h7⟩
    · rcases hs L hL with ⟨_, h, _⟩ | ⟨h, _⟩
      · rw [h]; exact .inl ⟨rfl, rfl, rfl⟩
      · rw [h1] at h; cases h
    · rcases hs L hL with ⟨h, _⟩ | ⟨_, h8, o, h9, h10⟩
      · rw [h1] at h; cases h
      · rw [h9]
        have : o = 0 := by rw [h10 (.inr rfl), Nat.zero_mul]
        subst this
        exact .inr ⟨L.blk, L.cap, arr, bs', rfl, rfl, h2, h3, h4, h5, h6, VCs.mono hle l (fun _ _ => rfl) h7⟩
  obtain ⟨bs2, hp2, hoY⟩ := k m' bX hle rfl (fun L hL => by simp only [m']; rw [if_neg hXY]; exact hL) hv'
  have hp3 : (bX ++ bs).Perm bs2 := ((hp.append_left bX).trans (by simpa using hp2.symm))
  obtain ⟨hn1, hb1⟩ := nodupL (zs := [((X, .row t sz l), bX), ((Y, .row t2 sz2 l2), bs)]) (R := R) (A := bs2) G (by simpa [Zs.own] using hp3)
  refine ⟨m', bs2, rfl, hle, Good.swap (zs := [((X, .row t sz l), bX), ((Y, .row t2 sz2 l2), bs)]) (zs' := [((X, .used), []), ((Y, .row t2 sz2 l2'), bs2)]) (R := R) G hle (Nat.le_refl _) (fun x hx _ => ?_) (fun b _ _ _ => rfl) ?_ (by simpa [Zs.own] using hn1) (fun b h => ?_) (fun b h => ⟨G.frz b h, .inl h⟩) ?_ ?_ (fun x hx => ⟨G.usedN x hx, .inl hx⟩) rfl rfl rfl (Nat.le_refl _)⟩
  · simp only [Zs.keys, List.map_cons, List.map_nil, List.mem_cons, List.not_mem_nil, or_false, not_or] at hx
    simp only [m']
    rw [if_neg hx.1]
  · intro z hz
    simp only [List.mem_cons, List.not_mem_nil, or_false] at hz
    rcases hz with rfl | rfl
    · exact ⟨rfl, hX.1⟩
    · exact hoY
  · obtain ⟨h1, h2, h3⟩ := hb1 b (by simpa [Zs.own] using h)
    refine ⟨h1, h2, ?_⟩
    rcases h3 with h3 | h3
    · exact .inl h3
    · exact .inr (.inl h3)
  · simp [Zs.keys]; exact fun e => hXY e.symm
  · intro x hx
    simp only [Zs.keys, List.map_cons, List.map_nil, List.mem_cons, List.not_mem_nil, or_false] at hx
    rcases hx with rfl | rfl
    · exact ⟨G.keyN _ (by simp [Zs.keys]), .inl (by simp [Zs.keys])⟩
    · exact ⟨G.keyN _ (by simp [Zs.keys]), .inl (by simp [Zs.keys])⟩
end
section
variable {nt : Nat} {st : St}
theorem St.thawIn {q Y : Nat} {t t2 : TypeId} {sz sz2 : Nat} {l l2 : List AV} {l2' : Nat → List AV} (hq : At st.S q (Y, .row t2 sz2 l2)) (hI : ∀ X, Hos (.lst true t sz l) (.sl X 0 l.length) l2 (l2' X)) : St.To nt st fun st' => ∃ X, st' = ⟨st.T, (X, .row t sz l) :: st.S.set q (Y, .row t2 sz2 (l2' X))⟩ := by
  rintro m0 a w ⟨m, N, Z, rfl, h2, h3, h4⟩
  obtain ⟨bs, hz⟩ := hq.z h2
  obtain ⟨R, hp1, hp2⟩ := perm_get hz
  obtain ⟨m', b1, b2, hw, hle, G'⟩ := (h3.perm hp1).thawIn (hI N)
  exact ⟨⟨st.T, (N, .row t sz l) :: st.S.set q (Y, .row t2 sz2 (l2' N))⟩, ⟨m', N + 1, ((N, .row t sz l), b1) :: Z.set q ((Y, .row t2 sz2 (l2' N)), b2), hw, by rw [List.map_cons, List.map_set, h2], G'.perm ((hp2 _).symm.cons _), h4.mono hle⟩, N, rfl⟩
theorem St.closeIn {p q X Y n : Nat} {t t2 : TypeId} {sz sz2 : Nat} {l l2 l2' : List AV} (hpq : p ≠ q) (hS : At st.S p (X, .row t sz l)) (hq : At st.S q (Y, .row t2 sz2 l2)) (hn : n = l.length) (hI : Hos (.sl X 0 n) (.lst true t sz l) l2 l2') : St.To nt st fun st' => st' = ⟨st.T, (st.S.set p (X, .used)).set q (Y, .row t2 sz2 l2')⟩ := by
  rintro m0 a w ⟨m, N, Z, rfl, h2, h3, h4⟩
  obtain ⟨bs, hz⟩ := hS.z h2
  obtain ⟨bs2, hz2⟩ := hq.z h2
  obtain ⟨R, hp1, hp2⟩ := perm_get2 hpq hz hz2
  obtain ⟨m', b2, hw, hle, G'⟩ := (h3.perm hp1).closeIn hn hI
  exact ⟨⟨st.T, (st.S.set p (X, .used)).set q (Y, .row t2 sz2 l2')⟩, ⟨m', N, (Z.set p ((X, .used), [])).set q ((Y, .row t2 sz2 l2'), b2), hw, by rw [List.map_set, List.map_set, h2], G'.perm (hp2 _ _).symm, h4.mono hle⟩, rfl⟩
end
end Go.Proofs.Ytfkppbkipbbmaaa

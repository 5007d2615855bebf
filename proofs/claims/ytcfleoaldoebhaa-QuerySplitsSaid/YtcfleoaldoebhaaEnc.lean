/-
  The plain data as abstract values. No conditions.
-/
import Derived.Test.YtcfleoaldoebhaaTy
import Derived.Test.YtcfleoaldoebhaaAbs22
import Derived.Test.YtcfleoaldoebhaaData
namespace Go.Proofs.Ytcfleoaldoebhaa
set_option linter.unusedSimpArgs false
set_option linter.unusedVariables false
abbrev iA (n : Int) : AV := .prim (.int .i64 n)
abbrev bA (b : Bool) : AV := .prim (.bool b)
abbrev sA (l : List UInt8) : AV := .prim (strA l)
def fieldA (f : Field) : AV := .agg [sA f.name, iA f.bits, iA f.low]
abbrev fieldsA (o : Bool) (l : List Field) : AV := .lst o 62 3 (l.map fieldA)
def kindA (o : Bool) (k : Kind) : AV := .agg [sA k.name, fieldsA o k.fields]
abbrev kindsA (o o' : Bool) (l : List Kind) : AV := .lst o 51 2 (l.map (kindA o'))
abbrev intsA (o : Bool) (l : List Int) : AV := .lst o 3 1 (l.map iA)
instance {f : Field} : Frz (fieldA f) (fieldA f) := ⟨rfl⟩
instance {o : Bool} {k : Kind} : Frz (kindA o k) (kindA false k) := ⟨by unfold kindA; exact Frz.h⟩
def compA (o : Bool) (c : Comp) : AV := .agg [iA c.kind, intsA o c.vals]
abbrev compsA (o o' : Bool) (l : List Comp) : AV := .lst o 58 2 (l.map (compA o'))
def itemA (o : Bool) (x : Item) : AV := .agg [iA x.ent.n, iA x.ent.gen, compsA o o x.comps]
abbrev itemsA (o o' : Bool) (l : List Item) : AV := .lst o 98 3 (l.map (itemA o'))
def wdA (o : Bool) (w : Wd) : AV := .agg [kindsA o o w.kinds, intsA o w.gens, itemsA o o w.items]
def entA (e : Ent) : AV := .agg [iA e.n, iA e.gen]
def evtA (e : Evt) : AV := .agg [iA e.sys, iA e.ent.n, iA e.ent.gen, iA e.val]
instance {e : Ent} : Frz (entA e) (entA e) := ⟨rfl⟩
instance {e : Evt} : Frz (evtA e) (evtA e) := ⟨rfl⟩
instance {o : Bool} {k : Comp} : Frz (compA o k) (compA false k) := ⟨by unfold compA; exact Frz.h⟩
instance {o : Bool} {k : Item} : Frz (itemA o k) (itemA false k) := ⟨by unfold itemA; exact Frz.h⟩
instance {o : Bool} {k : Wd} : Frz (wdA o k) (wdA false k) := ⟨by unfold wdA; exact Frz.h⟩
theorem frzs_same {α : Type} (f : α → AV) (h : ∀ a, (f a).frz = f a) (l : List α) : AV.frzs (l.map f) = l.map f := by
  rw [frzs_map, List.map_map]
  exact List.map_congr_left fun a _ => h a
theorem intsA_frz (o : Bool) (l : List Int) : (intsA o l).frz = intsA false l := by
  show AV.lst false _ _ (AV.frzs (l.map iA)) = _
  rw [frzs_same _ fun _ => rfl]
end Go.Proofs.Ytcfleoaldoebhaa

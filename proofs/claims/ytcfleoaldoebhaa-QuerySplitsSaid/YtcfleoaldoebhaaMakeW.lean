/-
  Package tourmake in plain Lean: components and worlds out of raw numbers. No conditions.
-/
import Derived.Test.YtcfleoaldoebhaaMakeM
namespace Go.Proofs.Ytcfleoaldoebhaa
set_option linter.unusedSimpArgs false
set_option linter.unusedVariables false
/-- The values for the first i fields. -/
def vAt (fs : List Field) (l : List Int) : Nat → List Int × List Int
  | 0 => ([], l)
  | i + 1 => match fs[i]? with
    | some f => ((vAt fs l i).1 ++ [f.low + nextV (vAt fs l i).2 (2 ^ f.bits.toNat)], nextL (vAt fs l i).2 (2 ^ f.bits.toNat))
    | none => vAt fs l i
/-- The components of the first i kinds. -/
def cAt (ks : List Kind) (l : List Int) : Nat → List Comp × List Int
  | 0 => ([], l)
  | i + 1 => match ks[i]? with
    | some k => if nextV (cAt ks l i).2 3 = 2 then ((cAt ks l i).1, nextL (cAt ks l i).2 3)
      else ((cAt ks l i).1 ++ [⟨i, (vAt k.fields (nextL (cAt ks l i).2 3) k.fields.length).1⟩], (vAt k.fields (nextL (cAt ks l i).2 3) k.fields.length).2)
    | none => cAt ks l i
def genComps (ks : List Kind) (l : List Int) : List Comp × List Int := cAt ks l ks.length
/-- The generations and items of the first i slots. -/
def wAt (ks : List Kind) (l : List Int) : Nat → List Int × List Item × List Int
  | 0 => ([], [], l)
  | i + 1 =>
    if nextV (nextL (wAt ks l i).2.2 3) 4 = 3 ∨ (wAt ks l i).2.1.length = 8 then ((wAt ks l i).1 ++ [nextV (wAt ks l i).2.2 3], (wAt ks l i).2.1, nextL (nextL (wAt ks l i).2.2 3) 4)
    else ((wAt ks l i).1 ++ [nextV (wAt ks l i).2.2 3], (wAt ks l i).2.1 ++ [⟨⟨i, nextV (wAt ks l i).2.2 3⟩, (genComps ks (nextL (nextL (wAt ks l i).2.2 3) 4)).1⟩], (genComps ks (nextL (nextL (wAt ks l i).2.2 3) 4)).2)
def genWorld (l : List Int) : Wd :=
  ⟨(genKinds l).1, (wAt (genKinds l).1 (nextL (genKinds l).2 12) (nextV (genKinds l).2 12).toNat).1, (wAt (genKinds l).1 (nextL (genKinds l).2 12) (nextV (genKinds l).2 12).toNat).2.1⟩
/-- Fields whose values are small numbers. -/
def FieldOK (f : Field) : Prop := 0 ≤ f.bits ∧ f.bits ≤ 32 ∧ -2147483648 ≤ f.low ∧ f.low ≤ 2147483648
def KindsOK (ks : List Kind) : Prop := ks.length ≤ 1099511627776 ∧ ∀ k ∈ ks, k.fields.length ≤ 1099511627776 ∧ ∀ f ∈ k.fields, FieldOK f
end Go.Proofs.Ytcfleoaldoebhaa

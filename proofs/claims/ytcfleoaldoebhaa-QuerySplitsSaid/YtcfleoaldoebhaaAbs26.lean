/-
  Freezing with the list that comes out given. No conditions.
-/
import Derived.Test.YtcfleoaldoebhaaAbs25
namespace Go.Proofs.Ytcfleoaldoebhaa
set_option linter.unusedVariables false
variable {ro : Option Nat}
section
variable {P : Program} {nt : Nat} {c : Code} {ops : Array Oper} {rest : List Oper} {Q : Exit → St → Prop} {T : List (Nat × AV)} {S : List Slot} {p n X sz : Nat} {t : TypeId} {l : List AV}
theorem AOps.iceL (d : Nat) (l' : List AV) (he : AV.frzs l = l') (k : AOps ro P nt ops Q rest ⟨(d, .lst false t sz l') :: T, S.set p (X, .used)⟩) (hd : look T d = some (.sl X 0 n) := by rfl) (hS : At S p (X, .row t sz l) := by (first | exact At.here | exact (At.next At.here) | exact (At.next (At.next At.here)) | exact (At.next (At.next (At.next At.here))) | exact (At.next (At.next (At.next (At.next At.here)))) | exact (At.next (At.next (At.next (At.next (At.next At.here))))) | exact (At.next (At.next (At.next (At.next (At.next (At.next At.here)))))))) (hn : n = l.length := by first | rfl | assumption | omega | (simp; omega) | simp [*]) : AOps ro P nt ops Q rest ⟨T, S⟩ :=
  AOps.ice hd hS hn (he ▸ k)
theorem AWP.iceL (d : Nat) (l' : List AV) (he : AV.frzs l = l') (k : AWP ro P nt c Q ⟨(d, .lst false t sz l') :: T, S.set p (X, .used)⟩) (hd : look T d = some (.sl X 0 n) := by rfl) (hS : At S p (X, .row t sz l) := by (first | exact At.here | exact (At.next At.here) | exact (At.next (At.next At.here)) | exact (At.next (At.next (At.next At.here))) | exact (At.next (At.next (At.next (At.next At.here)))) | exact (At.next (At.next (At.next (At.next (At.next At.here))))) | exact (At.next (At.next (At.next (At.next (At.next (At.next At.here)))))))) (hn : n = l.length := by first | rfl | assumption | omega | (simp; omega) | simp [*]) : AWP ro P nt c Q ⟨T, S⟩ :=
  AWP.ice hd hS hn (he ▸ k)
end
theorem frzs_app (a b : List AV) : AV.frzs (a ++ b) = AV.frzs a ++ AV.frzs b := by rw [frzs_map, List.map_append, frzs_map, frzs_map]
instance {a b a' b' : List AV} [h : Frzs a a'] [k : Frzs b b'] : Frzs (a ++ b) (a' ++ b') := ⟨by rw [frzs_app, h.h, k.h]⟩
end Go.Proofs.Ytcfleoaldoebhaa

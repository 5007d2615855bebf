/-
  tourmake.Kinds: the kinds that a list of raw numbers determines.
-/
import Derived.Test.YtcfleoaldoebhaaMakeA
import Derived.Lib.SmallJoins
namespace Go.Proofs.Ytcfleoaldoebhaa
set_option linter.unusedSimpArgs false
set_option linter.unusedVariables false
open Go.RowKit

section
variable {α : Type} {w : World} {base base' : Nat} {e : TypeId} {S T : Reg} {sz : Nat} {C : World → Reg → List Value → α → Prop} {v : Value} {l : List α}
theorem OwnL.weaken (G : GoodC sz C) (h : OwnL w base e S sz C v l) (hb : base' ≤ base) (hS : ∀ b, S b → b < w.heap.size → T b) : OwnL w base' e T sz C v l := by
  obtain ⟨xs, h1, h2⟩ := h
  exact ⟨xs, Go.Joins.ownsRow_le h1 hb, h2.mono fun c x hc => G.to _ _ _ _ _ _ hc (fun b hh => ⟨hS b hh.1 hh.2.1, hh.2⟩) (Same.refl _ _)⟩
end
theorem gb_below_of {w w' : World} {o : Obj} (h : (w.alloc o).grownBy w' (some w.heap.size)) : Below w.heap.size w w' :=
  ⟨h.os, h.tape, h.output, by have := h.size; simp at this; omega, fun b hb => (h.block b (by simp; omega) (fun e => by injection e with e; omega)).trans (Below.heap_alloc w o b hb)⟩
/-- A new stream over numbers that came in. -/
theorem StreamAt.new {w : World} {A : Option Addr} {n cap : Nat} {l : List Int} (hl : Ints w (Lt w) (.slice A n cap) l) :
    StreamAt (w.alloc (.cells #[.slice A n cap] 93)) w.heap.size (w.heap.size + 1) l :=
  ⟨by omega, by simp, A, n, cap, Blk.new w _ _, Ints.to hl (fun b (hb : b < w.heap.size) => ⟨by omega, by omega⟩) (Same.alloc w _ (fun b hb => hb))⟩

def NewPost {α : Type} (e : TypeId) (sz : Nat) (C : World → Reg → List Value → α → Prop) (w : World) (l : List α) (en : Ending) (w' : World) : Prop :=
  ∃ v, en = .returned v ∧ OwnL w' w.heap.size e (fun b => w.heap.size ≤ b) sz C v l ∧ Below w.heap.size w w'

set_option maxHeartbeats 400000 in
theorem kindsE_calls (l : List Int) (A : Option Addr) (n cap : Nat) (w : World) (hl : Ints w (Lt w) (.slice A n cap) l) (hlen : l.length ≤ 35184372088832) :
    Calls Try.prog 21 #[.slice A n cap] w (NewPost 51 2 kindC w (genKinds l).1) := by
  have HS := Lib.hid (StreamAt.new hl)
  go_enter Try.func21, Try.ntmps21
  go_wp2_with (go_at_call 42; refine (kinds_calls _ _ l _ HS.out hlen).mono ?_; rintro e w1 ⟨v, rfl, ho, hs, hg⟩)
  go_ret
  exact ⟨v, rfl, ho.weaken good_kind (by simp) (fun b hb _ => by simp at hb; omega), gb_below_of hg⟩

section
variable {P : Program} {t e : TypeId} {sz bytes : Nat} {z : Value} {α : Type} {S : Reg} {C : World → Reg → List Value → α → Prop} {v : Value} {l ls : List α} {base : Nat}
theorem step_app (T : SlT P t e sz bytes z) (G : GoodC sz C) {ops : Array Oper} {o : Oper} {a : Act} {K : Act → World → Prop} {Q : Exit → Act → World → Prop} {E : Prop} (hgd : o.guard = none) (s x : Operand)
    (ho : o.op = .call { callee := .builtin .append, args := #[s, x], argTypes := #[t, t] }) (w : World) (hs : a.eval s = v) {y : Value} (hx : a.eval x = y)
    (hown : OwnL w base e S sz C v l) (hy : Sl w (fun b => S b ∧ b < w.heap.size ∧ v.ownBlock ≠ some b) sz C y ls) (hbytes : (l.length + ls.length) * bytes ≤ 140737488355328) (hlen : l.length + ls.length ≤ maxLen) (hbase : base ≤ w.heap.size)
    (h : ∀ v' w', OwnL w' base e S sz C v' (l ++ ls) → w.grownBy w' v.ownBlock → (v'.ownBlock = v.ownBlock ∨ v'.ownBlock = some w.heap.size) → K (a.put o.dst v') w') :
    if Region.wanted o (yielded ops a.tmps) = true then Oper.wp P o a w K Q else E := by
  have hw : Region.wanted o (yielded ops a.tmps) = true := by simp [Region.wanted, hgd]
  rw [if_pos hw]
  exact wp_app T G s x ho w hs hx hown hy hbytes hlen hbase h
end
end Go.Proofs.Ytcfleoaldoebhaa

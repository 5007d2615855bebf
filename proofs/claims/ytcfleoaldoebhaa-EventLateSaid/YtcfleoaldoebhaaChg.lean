/-
  Worlds that differ in new blocks and in the old blocks of a set. No conditions.
-/
import Derived.Test.YtcfleoaldoebhaaLaw
namespace Go.Proofs.Ytcfleoaldoebhaa
set_option linter.unusedSimpArgs false
set_option linter.unusedVariables false
open Go.RowKit

structure Chg (X : Reg) (w w' : World) : Prop where
  os : w'.os = w.os
  tape : w'.tape = w.tape
  output : w'.output = w.output
  size : w.heap.size ≤ w'.heap.size
  block : ∀ b, b < w.heap.size → ¬ X b → w'.heap[b]? = w.heap[b]?

section
variable {X Y : Reg} {w w' w'' : World}
theorem Chg.refl (X : Reg) (w : World) : Chg X w w := ⟨rfl, rfl, rfl, Nat.le_refl _, fun _ _ _ => rfl⟩
theorem Chg.of_grown {row : Option Nat} (h : w.grownBy w' row) (hX : ∀ b, some b = row → b < w.heap.size → X b) : Chg X w w' := ⟨h.os, h.tape, h.output, h.size, fun b hb hx => h.block b hb fun e => hx (hX b e hb)⟩
theorem Chg.of_below (h : Below w.heap.size w w') : Chg X w w' := ⟨h.os, h.tape, h.output, h.size, fun b hb _ => h.block b hb⟩
theorem Chg.trans (h : Chg X w w') (k : Chg Y w' w'') (hY : ∀ b, b < w.heap.size → Y b → X b) : Chg X w w'' :=
  ⟨k.os.trans h.os, k.tape.trans h.tape, k.output.trans h.output, Nat.le_trans h.size k.size, fun b hb hx => (k.block b (Nat.lt_of_lt_of_le hb h.size) fun hy => hx (hY b hb hy)).trans (h.block b hb hx)⟩
theorem Chg.mono (h : Chg X w w') (hY : ∀ b, b < w.heap.size → X b → Y b) : Chg Y w w' := ⟨h.os, h.tape, h.output, h.size, fun b hb hy => h.block b hb fun hx => hy (hY b hb hx)⟩
theorem Chg.below (h : Chg X w w') {B : Nat} (hB : B ≤ w.heap.size) (hX : ∀ b, X b → b < w.heap.size → B ≤ b) : Below B w w' := ⟨h.os, h.tape, h.output, h.size, fun b hb => h.block b (by omega) fun hx => by have := hX b hx (by omega); omega⟩
theorem Chg.drew (h : Chg X w w') : Chg X w w'.drew := ⟨h.os, h.tape, h.output, h.size, h.block⟩
theorem Chg.alloc (h : Chg X w w') (o : Obj) : Chg X w (w'.alloc o) := h.trans (Y := fun _ => False) (.of_grown (World.grownBy_alloc w' o none) fun _ e _ => by cases e) fun _ _ e => e.elim
theorem Chg.setCell (h : Chg X w w') {p : Addr} (u : Value) (hp : p.block < w.heap.size → X p.block) : Chg X w (w'.setCell p u) :=
  ⟨h.os, h.tape, h.output, by simpa [World.setCell] using h.size, fun b hb hx => (Below.heap_setCell w' p u b (fun e => hx (e ▸ hp (e ▸ hb)))).trans (h.block b hb hx)⟩
theorem Chg.same (h : Chg X w w') {S : Reg} (hS : ∀ b, S b → b < w.heap.size ∧ ¬ X b) : Same S w w' := fun b hb => h.block b (hS b hb).1 (hS b hb).2
theorem lvlX (h : Chg X w w') : (∀ b o, b < w.heap.size → ¬ X b → w'.cell? ⟨b, o, none⟩ = w.cell? ⟨b, o, none⟩) ∧ (∀ b o, b < w.heap.size → ¬ X b → w'.frozen? ⟨b, o, none⟩ = w.frozen? ⟨b, o, none⟩) :=
  ⟨fun b o hb hx => World.cell?_of_block (w := w) (a := ⟨b, o, none⟩) (h.block b hb hx), fun b o hb hx => World.frozen?_of_block (w := w) (a := ⟨b, o, none⟩) (h.block b hb hx)⟩
theorem Blk.chg {g : Nat} {t : TypeId} {cs : Array Value} (h : Blk w g t cs) (k : Chg X w w') (hg : ¬ X g) : Blk w' g t cs := (k.block g h.lt hg).trans h
theorem ownsRow_chg {base : Nat} {e : TypeId} {sz : Nat} {v : Value} {n : Nat} {xs : List Value} (h : w.ownsRow base e sz v n xs) (k : Chg X w w') (hX : ∀ b, v.ownBlock = some b → ¬ X b) : w'.ownsRow base e sz v n xs := by
  refine ⟨h.1, ?_⟩
  rcases h.2 with hn | ⟨g, cap, cur, rfl, hb, hg, rest⟩
  · exact .inl hn
  · exact .inr ⟨g, cap, cur, rfl, hb, (k.block g (lt_of_block hg) (hX g rfl)).trans hg, rest⟩
theorem OwnL.chg {α : Type} {base : Nat} {e : TypeId} {S : Reg} {sz : Nat} {C : World → Reg → List Value → α → Prop} {v : Value} {l : List α} (G : GoodC sz C) (h : OwnL w base e S sz C v l) (k : Chg X w w') (hX : ∀ b, v.ownBlock = some b → ¬ X b)
    (hS : ∀ b, S b → b < w.heap.size → ¬ X b) : OwnL w' base e S sz C v l := by
  obtain ⟨xs, h1, h2⟩ := h
  refine ⟨xs, ownsRow_chg h1 k hX, h2.mono fun c x hc => G.to _ _ _ _ _ _ hc ?_ ?_⟩
  · rintro b ⟨hb, hl, hn⟩
    exact ⟨hb, Nat.lt_of_lt_of_le hl k.size, hn⟩
  · rintro b ⟨hb, hl, _⟩
    exact k.block b hl (hS b hb hl)
end
end Go.Proofs.Ytcfleoaldoebhaa

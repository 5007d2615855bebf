/-
  A step of a proof about the given program: Base. Conditions: those that each theorem names.
-/
import Derived.Test.YtcfleoaldoebhaaProg
import Derived.WalkLawsBesides
import Derived.WalkSpells
import Derived.Test.YtcfleoaldoebhaaLaw
import Derived.Test.YtcfleoaldoebhaaReg
import Derived.Test.YtcfleoaldoebhaaMakeM
namespace Go.Proofs.Ytcfleoaldoebhaa
set_option linter.unusedSimpArgs false
set_option linter.unusedVariables false
open Go.RowKit

theorem ret_i {a b : Int} (h : a = b) : Ending.returned (.int .i64 a) = .returned (.int .i64 b) := by rw [h]
theorem tmod_lt {x n : Int} (hn : 1 ≤ n) : -n < x.tmod n ∧ x.tmod n < n := by
  refine ⟨?_, Int.tmod_lt_of_pos x (by omega)⟩
  have := Int.lt_tmod_of_pos x (b := n) (by omega)
  exact this
theorem mod_of_tmod {x n : Int} (hn : 1 ≤ n) : x % n = if x.tmod n < 0 then x.tmod n + n else x.tmod n := by
  have h := Int.tmod_add_mul_tdiv x n
  have hb := tmod_lt (x := x) hn
  split
  · have e : x = (x.tmod n + n) + n * (x.tdiv n - 1) := by rw [Int.mul_sub, Int.mul_one]; omega
    calc x % n = ((x.tmod n + n) + n * (x.tdiv n - 1)) % n := by rw [← e]
      _ = (x.tmod n + n) % n := Int.add_mul_emod_self_left ..
      _ = x.tmod n + n := Int.emod_eq_of_lt (by omega) (by omega)
  · calc x % n = (x.tmod n + n * x.tdiv n) % n := by rw [h]
      _ = x.tmod n % n := Int.add_mul_emod_self_left ..
      _ = x.tmod n := Int.emod_eq_of_lt (by omega) (by omega)

set_option maxHeartbeats 400000 in
theorem below_calls (x n : Int) (w : World) (hn : 1 ≤ n) (hn2 : n ≤ 9223372036854775807) :
    Calls Try.prog 19 #[.int .i64 x, .int .i64 n] w fun e w' => e = .returned (.int .i64 (x % n)) ∧ w = w' := by
  have hb := tmod_lt (x := x) hn
  have H := Lib.hid (mod_of_tmod (x := x) hn)
  have hz : ¬ n = 0 := by omega
  obtain ⟨b1, b2⟩ := hb
  go_enter Try.func19, Try.ntmps19
  go_wp2
  all_goals
    go_ret
    refine ⟨ret_i ?_, rfl⟩
    rw [H.out]
    split <;> omega

set_option maxHeartbeats 400000 in
theorem isNaN_calls (x : Int) (w : World) :
    Calls Try.prog 74 #[.int .i64 x] w fun e w' => e = .returned (.bool false) ∧ w = w' := by
  have g : (x != x) = false := by simp
  go_enter Try.func74, Try.ntmps74
  go_wp2
  go_ret
  exact ⟨by simp, rfl⟩
def cmpI (x y : Int) : Int := if x < y then -1 else if y < x then 1 else 0
set_option maxHeartbeats 400000 in
theorem compare_calls (x y : Int) (w : World) :
    Calls Try.prog 57 #[.int .i64 x, .int .i64 y] w fun e w' => e = .returned (.int .i64 (cmpI x y)) ∧ w = w' := by
  go_enter Try.func57, Try.ntmps57
  go_wp2_with (go_at_call 74; refine (isNaN_calls _ _).mono ?_; rintro e w' ⟨rfl, rfl⟩)
  all_goals go_ret
  all_goals refine ⟨ret_i ?_, rfl⟩
  all_goals simp only [cmpI]
  all_goals (repeat' split) <;> omega

/-! ### the stream of numbers -/
/-- Block g is a stream of the numbers l, which lie below block B. -/
def StreamAt (w : World) (g B : Nat) (l : List Int) : Prop := g < B ∧ B ≤ w.heap.size ∧ ∃ A n cap, Blk w g 93 #[.slice A n cap] ∧ Ints w (fun b => b < B ∧ b ≠ g) (.slice A n cap) l
def NextPost (w : World) (g B : Nat) (l : List Int) (n : Int) (e : Ending) (w' : World) : Prop := e = .returned (.int .i64 (nextV l n)) ∧ StreamAt w' g B (nextL l n) ∧ w.grownBy w' (some g)

set_option maxHeartbeats 400000 in
theorem next_calls (g B : Nat) (l : List Int) (n : Int) (w : World) (hs : StreamAt w g B l) (hn : n ≤ 9223372036854775807) (hl : l.length ≤ 35184372088832) :
    Calls Try.prog 43 #[.pointer (some ⟨g, 0, none⟩), .int .i64 n] w (NextPost w g B l n) := by
  obtain ⟨hgB, hBw, A, m, cap, hB, hi⟩ := hs
  obtain rfl := hi.len
  have hcap := hi.cap
  have hc := hB.cell 0
  simp only [List.getElem?_toArray, List.getElem?_cons_zero] at hc
  have hfz := hB.frozen 0
  by_cases h1 : n < 1
  · have HB := Lib.hid hB
    clear hB
    by_cases h0 : l.length = 0
    · have e0 : ((l.length : Int) == 0) = true := beq_iff_eq.2 (by omega)
      go_enter Try.func43, Try.ntmps43
      go_wp2
      all_goals go_ret
      all_goals exact ⟨ret_i (by simp [nextV, h1]), ⟨hgB, hBw, A, _, cap, HB.out, by simpa [nextL, h1] using hi⟩, World.grownBy.refl _ _⟩
    · have e0 : ((l.length : Int) == 0) = false := beq_eq_false_iff_ne.2 (by omega)
      go_enter Try.func43, Try.ntmps43
      go_wp2
      all_goals go_ret
      all_goals exact ⟨ret_i (by simp [nextV, h1]), ⟨hgB, hBw, A, _, cap, HB.out, by simpa [nextL, h1] using hi⟩, World.grownBy.refl _ _⟩
  · cases l with
    | nil =>
      have HB := Lib.hid hB
      clear hB
      go_enter Try.func43, Try.ntmps43
      go_wp2
      all_goals go_ret
      all_goals exact ⟨ret_i (by simp [nextV, h1]), ⟨hgB, hBw, A, _, cap, HB.out, by simpa [nextL, h1] using hi⟩, World.grownBy.refl _ _⟩
    | cons x l =>
      obtain ⟨b, off, rfl, hb, c0⟩ := hi.at (i := 0) (by simp)
      simp only [Nat.add_zero, List.getElem_cons_zero] at c0
      have e0 : (((l.length + 1 : Nat) : Int) == 0) = false := by simp; omega
      have e1 : ((l.length : Int) + 1 == 0) = false := by simp; omega
      have hne : b ≠ g := hb.2
      have hbl : b < w.heap.size := by omega
      have HB := Lib.hid hB
      clear hB
      go_enter Try.func43, Try.ntmps43
      go_wp2_with (go_at_call 19; refine (below_calls _ _ _ (by omega) (by omega)).mono ?_; rintro e w' ⟨rfl, rfl⟩)
      all_goals go_ret
      · obtain rfl : l = [] := by
          simp only [List.length_cons] at hcap
          exact List.eq_nil_of_length_eq_zero (by omega)
        refine ⟨ret_i (by simp [nextV]; omega), ⟨hgB, by simpa [World.setCell] using hBw, _, _, _, HB.out.set_ 0 _, ?_⟩, ⟨rfl, rfl, rfl, by simp [World.setCell], fun k _ hk => Below.heap_setCell _ _ _ _ (fun e => hk (by rw [e]))⟩⟩
        have : nextL [x] n = [] := by simp [nextL]; omega
        rw [this]
        exact Sl.empty _ _ _ _ _ _
      · refine ⟨ret_i (by simp [nextV]; omega), ⟨hgB, by simpa [World.setCell] using hBw, _, _, _, HB.out.set_ 0 _, ?_⟩, ⟨rfl, rfl, rfl, by simp [World.setCell], fun k _ hk => Below.heap_setCell _ _ _ _ (fun e => hk (by rw [e]))⟩⟩
        have : nextL (x :: l) n = l := by simp [nextL]; omega
        rw [this]
        have h2 := hi.drop (k := 1) (by simp)
        simp only [List.length_cons, Nat.add_sub_cancel, Nat.one_mul, List.drop_one, List.tail_cons] at h2
        exact Ints.to h2 (fun b hb => hb) (Same.setCell _ _ fun b hb => hb.2)

/-! ### worlds that differ in one old block -/
section
variable {a b c : World} {g : Nat}
theorem gb_trans (h : a.grownBy b (some g)) (k : b.grownBy c (some g)) : a.grownBy c (some g) :=
  ⟨k.os.trans h.os, k.tape.trans h.tape, k.output.trans h.output, Nat.le_trans h.size k.size, fun i hi hne => (k.block i (Nat.lt_of_lt_of_le hi h.size) hne).trans (h.block i hi hne)⟩
theorem gb_drew (h : a.grownBy b (some g)) : a.grownBy b.drew (some g) := ⟨h.os, h.tape, h.output, h.size, h.block⟩
theorem gb_alloc (h : a.grownBy b (some g)) (o : Obj) : a.grownBy (b.alloc o) (some g) := gb_trans h (World.grownBy_alloc b o _)
theorem gb_set (h : a.grownBy b (some g)) {p : Addr} (hp : a.heap.size ≤ p.block) (u : Value) : a.grownBy (b.setCell p u) (some g) :=
  ⟨h.os, h.tape, h.output, by simpa [World.setCell] using h.size, fun i hi hne => (Below.heap_setCell b p u i (by omega)).trans (h.block i hi hne)⟩
theorem gb_setg (h : a.grownBy b (some g)) {p : Addr} (hp : p.block = g) (u : Value) : a.grownBy (b.setCell p u) (some g) :=
  ⟨h.os, h.tape, h.output, by simpa [World.setCell] using h.size, fun i hi hne => (Below.heap_setCell b p u i (fun e => hne (by rw [e, hp]))).trans (h.block i hi hne)⟩
theorem gb_below {B : Nat} (h : a.grownBy b (some g)) (k : Below B b c) (hB : a.heap.size ≤ B) : a.grownBy c (some g) :=
  ⟨k.os.trans h.os, k.tape.trans h.tape, k.output.trans h.output, Nat.le_trans h.size k.size, fun i hi hne => (k.block i (by omega)).trans (h.block i hi hne)⟩
theorem gb_grown {row : Option Nat} (h : a.grownBy b (some g)) (k : b.grownBy c row) (hr : ∀ r, row = some r → a.heap.size ≤ r) : a.grownBy c (some g) :=
  ⟨k.os.trans h.os, k.tape.trans h.tape, k.output.trans h.output, Nat.le_trans h.size k.size, fun i hi hne => (k.block i (Nat.lt_of_lt_of_le hi h.size) (fun e => by have := hr i e.symm; omega)).trans (h.block i hi hne)⟩
theorem lvlG (h : a.grownBy b (some g)) : (∀ x o, x < a.heap.size → x ≠ g → b.cell? ⟨x, o, none⟩ = a.cell? ⟨x, o, none⟩) ∧ (∀ x o, x < a.heap.size → x ≠ g → b.frozen? ⟨x, o, none⟩ = a.frozen? ⟨x, o, none⟩) :=
  ⟨fun x o hx hne => World.cell?_of_block (w := a) (a := ⟨x, o, none⟩) (h.block x hx (fun e => hne (by injection e))), fun x o hx hne => World.frozen?_of_block (w := a) (a := ⟨x, o, none⟩) (h.block x hx (fun e => hne (by injection e)))⟩
theorem StreamAt.up {B : Nat} {w W : World} {l : List Int} (h : StreamAt w g B l) (hb : Below B w W) : StreamAt W g B l := by
  obtain ⟨h1, h2, A, n, cap, hB, hi⟩ := h
  exact ⟨h1, Nat.le_trans h2 hb.size, A, n, cap, hB.below hb h1, hi.to (fun b hb' => hb') (fun b hb' => hb.block b hb'.1)⟩
theorem StreamAt.le {B : Nat} {w : World} {l : List Int} (h : StreamAt w g B l) : g < B ∧ B ≤ w.heap.size := ⟨h.1, h.2.1⟩
end
end Go.Proofs.Ytcfleoaldoebhaa

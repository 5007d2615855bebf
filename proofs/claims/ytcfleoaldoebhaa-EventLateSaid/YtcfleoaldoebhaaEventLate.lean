/-
  The law EventLate's walk: what is sent is read after the next turn, once.
-/
import Derived.Test.YtcfleoaldoebhaaEvtQ
namespace Go.Proofs.Ytcfleoaldoebhaa
set_option linter.unusedSimpArgs false
set_option linter.unusedVariables false
open Go.RowKit

abbrev noReg : Reg := fun _ => False
abbrev OwnE (W : World) (B : Nat) (v : Value) (l : List Evt) : Prop := OwnL W B 30 noReg 4 evtC v l
/-- A queue at block g, and a list that the caller builds beside it. -/
structure QS (w0 : World) (g : Nat) (vq vr vw : Value) (lq lr lw : List Evt) (W : World) : Prop where
  blk : Blk W g 90 #[vq, vr]
  bel : Below g w0 W
  q : OwnE W (g + 1) vq lq
  r : OwnE W (g + 1) vr lr
  l : OwnE W (g + 1) vw lw
  apart : ∀ b, vq.ownBlock = some b → vw.ownBlock ≠ some b

section
variable {w0 W W' : World} {g : Nat} {vq vr vw : Value} {lq lr lw : List Evt}
theorem QS.below (h : QS w0 g vq vr vw lq lr lw W) (hb : Below W.heap.size W W') : QS w0 g vq vr vw lq lr lw W' :=
  ⟨h.blk.below hb h.blk.lt, h.bel.trans (hb.mono (Nat.le_of_lt h.blk.lt)), h.q.below good_evt hb, h.r.below good_evt hb, h.l.below good_evt hb, h.apart⟩
theorem OwnE.reads {B : Nat} {v : Value} {l : List Evt} (h : OwnE W B v l) : Evts W (Lt W) v l := h.read good_evt (fun _ h => h.elim) (fun _ _ h => h)

theorem QS.new (w : World) : QS w w.heap.size (.slice none 0 0) (.slice none 0 0) (.slice none 0 0) [] [] [] (w.alloc (.cells #[.slice none 0 0, .slice none 0 0] 90)) :=
  ⟨Blk.new w _ _, (Below.refl _ _).alloc (Nat.le_refl _) _, OwnL.nil _ _ _ _ _ _, OwnL.nil _ _ _ _ _ _, OwnL.nil _ _ _ _ _ _, fun b h => by cases h⟩
theorem QS.send (h : QS w0 g vq vr vw lq [] lw W) (hr : vr = .slice none 0 0) (e : Evt) (hlen : lq.length ≤ 256) :
    Calls Try.prog 11 #[.pointer (some ⟨g, 0, none⟩), evtV e] W fun en W' => ∃ vq', en = .returned (.int .i64 (if lq.length < 256 then 0 else 6)) ∧ QS w0 g vq' vr vw (if lq.length < 256 then lq ++ [e] else lq) [] lw W' ∧ Chg (fun b => b = g ∨ vq.ownBlock = some b) W W' := by
  subst hr
  have hne : vq.ownBlock ≠ some g := fun e => by have := (h.q.block e).1; omega
  have hlt := h.blk.lt
  refine (qsend_calls e g (g + 1) vq _ lq W h.blk h.q (by omega) hne hlen).mono ?_
  rintro en W' ⟨v', rfl, hB, ho, hc, hat⟩
  refine ⟨v', rfl, ⟨hB, h.bel.trans (hc.below (by omega) ?_), ho, OwnL.nil _ _ _ _ _ _, h.l.chg good_evt hc ?_ (fun _ h => h.elim), ?_⟩, hc⟩
  · rintro b (rfl | hb) hb2
    · omega
    · have := (h.q.block hb).1
      omega
  · rintro b hb (rfl | hb2)
    · have := (h.l.block hb).1
      omega
    · exact h.apart b hb2 hb
  · intro b hb hb2
    rcases hat with e | ⟨k, e, hk⟩
    · exact h.apart b (e ▸ hb) hb2
    · have := (h.l.block hb2).2
      rw [hb] at e
      injection e with e
      omega
theorem QS.waits (h : QS w0 g vq vr vw lq lr lw W) : Calls Try.prog 12 #[.pointer (some ⟨g, 0, none⟩)] W fun e W' => e = .returned (.int .i64 lq.length) ∧ W = W' := by
  obtain ⟨A, cap, rfl, _⟩ := h.q.form
  exact qwaits_calls g _ _ _ _ W h.blk
theorem QS.rd (h : QS w0 g vq vr vw lq lr lw W) (hlen : lr.length * 32 ≤ 140737488355328) : Calls Try.prog 13 #[.pointer (some ⟨g, 0, none⟩)] W fun e W' => ∃ A cap, e = .returned (.slice A lr.length cap) ∧ Evts W' (Lt W') (.slice A lr.length cap) lr ∧ QS w0 g vq vr vw lq lr lw W' := by
  refine (qread_calls lr g vq vr W h.blk (OwnE.reads h.r) hlen).mono ?_
  rintro e W' ⟨v, rfl, ho, hb⟩
  obtain ⟨A, cap, rfl, _⟩ := ho.form
  refine ⟨A, cap, rfl, ?_, h.below hb⟩
  exact ho.read good_evt (fun b h => Nat.lt_of_lt_of_le h hb.size) (fun _ _ h => h)
theorem QS.turn (h : QS w0 g vq vr vw lq lr lw W) : Calls Try.prog 14 #[.pointer (some ⟨g, 0, none⟩)] W fun e W' => e = .returned (.tuple #[]) ∧ QS w0 g (.slice none 0 0) vq vw [] lq lw W' := by
  obtain ⟨A, cap, rfl, _⟩ := h.q.form
  obtain ⟨A2, cap2, rfl, _⟩ := h.r.form
  refine (qturn_calls g _ _ _ _ _ _ W h.blk).mono ?_
  rintro e W' ⟨rfl, hB, hc⟩
  have hlt := h.blk.lt
  refine ⟨rfl, hB, h.bel.trans (hc.below (by omega) (by rintro b rfl _; omega)), OwnL.nil _ _ _ _ _ _, h.q.chg good_evt hc ?_ (fun _ h => h.elim), h.l.chg good_evt hc ?_ (fun _ h => h.elim), fun b h => by cases h⟩
  · rintro b hb rfl
    have := (h.q.block hb).1
    omega
  · rintro b hb rfl
    have := (h.l.block hb).1
    omega
theorem QS.app {vw' : Value} {lw' : List Evt} (h : QS w0 g vq vr vw lq [] lw W) (hr : vr = .slice none 0 0) (ho : OwnE W' (g + 1) vw' lw') (hg : W.grownBy W' vw.ownBlock) (hat : vw'.ownBlock = vw.ownBlock ∨ vw'.ownBlock = some (W.heap.size + 1)) : QS w0 g vq vr vw' lq [] lw' W' := by
  have hlt := h.blk.lt
  subst hr
  have hgw : vw.ownBlock ≠ some g := fun e => by have := (h.l.block e).1; omega
  refine ⟨h.blk.grown hg (fun e => hgw e.symm), ⟨hg.os.trans h.bel.os, hg.tape.trans h.bel.tape, hg.output.trans h.bel.output, Nat.le_trans h.bel.size hg.size, fun b hb => (hg.block b (by omega) ?_).trans (h.bel.block b hb)⟩, h.q.keepG good_evt hg ?_ (fun _ h => h.elim), OwnL.nil _ _ _ _ _ _, ho, ?_⟩
  · intro e
    have := (h.l.block e.symm).1
    omega
  · exact fun k hk e => h.apart k hk e
  · intro b hb hb2
    rcases hat with e | e
    · exact h.apart b hb (e ▸ hb2)
    · have := (h.q.block hb).2
      rw [hb2] at e
      injection e with e
      omega
end

def five : Evt := ⟨0, ⟨0, 0⟩, 5⟩
def sent (m : List Evt) (k : Nat) : List Evt := (five :: m.take k).take 256

set_option maxRecDepth 100000 in
set_option maxHeartbeats 1000000 in
theorem eventLate_calls (m : List Evt) (A : Option Addr) (n cap : Nat) (w : World) (hm : Evts w (Lt w) (.slice A n cap) m) (hlen : m.length * 32 ≤ 140737488355328) :
    Calls Try.prog 3 #[.slice A n cap] w fun e w' => e = .returned (.bool true) ∧ Below w.heap.size w w' := by
  obtain rfl := hm.len
  go_enter Try.func3, Try.ntmps3
  go_wp2_with (first | (go_at_call 10; refine (qnew_calls _).mono ?_; rintro e w1 ⟨rfl, rfl⟩; have HQ := Lib.hid (QS.new w)) | (go_at_call 11; refine (HQ.out.send rfl five (by simp)).mono ?_; rintro e w2 ⟨vq, rfl, hq, _⟩; have HQ2 := Lib.hid hq; clear hq) | (go_at_call 12; refine HQ2.out.waits.mono ?_; rintro e w' ⟨rfl, rfl⟩))
  have hq2 := HQ2.out
  simp only [List.length_nil, Nat.zero_lt_succ, if_true, List.nil_append] at hq2
  have HL : OwnE (w2.alloc (.cells #[.int .i64 0, .int .i64 0, .int .i64 0, .int .i64 5] 30)) (w.heap.size + 1) (.slice (some ⟨w2.heap.size, 0, none⟩) 1 1) [five] := by
    have h1 := hq2.blk.lt
    exact ⟨[.int .i64 0, .int .i64 0, .int .i64 0, .int .i64 5], World.ownsRow_lit w2 #[.int .i64 0, .int .i64 0, .int .i64 0, .int .i64 5] 1 (by omega) (by simp [maxLen]) rfl, Cells.one rfl rfl⟩
  have HQ3 : QS w w.heap.size vq (.slice none 0 0) (.slice (some ⟨w2.heap.size, 0, none⟩) 1 1) [five] [] [five] (w2.alloc (.cells #[.int .i64 0, .int .i64 0, .int .i64 0, .int .i64 5] 30)) := by
    have h2 := hq2.below ((Below.refl _ _).alloc (Nat.le_refl _) (.cells #[.int .i64 0, .int .i64 0, .int .i64 0, .int .i64 5] 30))
    refine ⟨h2.blk, h2.bel, h2.q, h2.r, HL, fun b hb hb2 => ?_⟩
    have := (hq2.q.block hb).2
    injection hb2 with hb2
    simp at hb2
    omega
  clear hq2 HL HQ HQ2
  go_loopw [4, 25] (fun v i wr => ∃ (k : Nat) (vq : Value), k ≤ m.length ∧ i = .int .i64 k ∧ QS w w.heap.size vq (.slice none 0 0) v (sent m k) [] (sent m k) wr) (fun _ i _ => m.length - (intOf i).toNat)
  case atStart => exact ⟨0, vq, by omega, rfl, by simpa [sent] using HQ3⟩
  case round =>
    clear HQ3
    obtain ⟨k, vq, hk, rfl, hq⟩ := hrel
    obtain ⟨wo, rfl⟩ : ∃ wo : World, wo = wr := ⟨_, rfl⟩
    obtain ⟨AL, cl, rfl, hcl⟩ := hq.l.form
    have HS : Hid ((sent m k).length = min (k + 1) 256) := by show (sent m k).length = min (k + 1) 256; simp [sent, List.length_take]; omega
    have HQ := Lib.hid hq
    have hbw := hq.bel
    obtain ⟨hcw, hfw⟩ := lvl hbw
    have s1 := hbw.size
    clear hq hbw
    by_cases hlt : k < m.length
    · obtain ⟨b, off, rfl, hb, c0, c1, c2, c3⟩ := hm.at hlt
      unfold Lt at hb
      have i0 : (0 : Int) ≤ (k : Int) := by omega
      have i1 : (k : Int) < (m.length : Int) := by omega
      have hm256 : (sent m k).length ≤ 256 := by have := HS.out; omega
      have hq1 := HQ.out.below ((Below.refl _ _).alloc (Nat.le_refl _) (.cells #[.int .i64 m[k].sys, .int .i64 m[k].ent.n, .int .i64 m[k].ent.gen, .int .i64 m[k].val] 30))
      have hvq : ∀ b, vq.ownBlock = some b → b < wo.heap.size := fun b hb => (HQ.out.q.block hb).2
      have hgw := HQ.out.blk.lt
      have HQ1 := Lib.hid hq1
      have HV := Lib.hid hvq
      clear hq1 hvq
      by_cases h256 : (sent m k).length < 256
      · have HN : Hid (sent m (k + 1) = sent m k ++ [m[k]]) := by
          have := HS.out
          show (five :: m.take (k + 1)).take 256 = (five :: m.take k).take 256 ++ [m[k]]
          rw [List.take_of_length_le (l := five :: m.take (k + 1)) (by simp; omega), List.take_of_length_le (l := five :: m.take k) (by simp; omega), List.take_add_one, List.getElem?_eq_getElem hlt]
          rfl
        go_wp2_with (first
          | (go_at_call 11; refine (HQ1.out.send rfl m[k] hm256).mono ?_; rintro e w3 ⟨vq3, rfl, hq3, hc3⟩; rw [if_pos h256]; rw [if_pos h256] at hq3; obtain ⟨hx3, hy3⟩ := lvlX hc3; have b0 := hx3 wo.heap.size 0 (by simp) (by rintro (h | h); (omega); (have := HV.out _ h; omega)); have b1 := hx3 wo.heap.size 1 (by simp) (by rintro (h | h); (omega); (have := HV.out _ h; omega)); have b2 := hx3 wo.heap.size 2 (by simp) (by rintro (h | h); (omega); (have := HV.out _ h; omega)); have b3 := hx3 wo.heap.size 3 (by simp) (by rintro (h | h); (omega); (have := HV.out _ h; omega)); have HQ3 := Lib.hid hq3; clear hq3 hc3 hx3 hy3)
          | (at_builtin; refine wpList_app1 tEvts good_evt rfl _ _ rfl _ (c := [.int .i64 m[k].sys, .int .i64 m[k].ent.n, .int .i64 m[k].ent.gen, .int .i64 m[k].val]) rfl rfl HQ3.out.l rfl (by omega) (by simp [maxLen]; omega) (by have := HQ3.out.blk.lt; omega) ?_; intro v4 w4 ho4 hg4 hat4))
        go_roundw
        case rel =>
          refine ⟨k + 1, vq3, by omega, by go_num, ?_⟩
          rw [HN.out]
          exact HQ3.out.app rfl ho4 hg4 hat4
        case measure => simp [intOf]; omega
      · have HN : Hid (sent m (k + 1) = sent m k) := by
          have := HS.out
          show (five :: m.take (k + 1)).take 256 = (five :: m.take k).take 256
          rw [show (256 : Nat) = 255 + 1 from rfl, List.take_succ_cons, List.take_succ_cons, List.take_take, List.take_take, Nat.min_eq_left (by omega), Nat.min_eq_left (by omega)]
        go_wp2_with (go_at_call 11; refine (HQ1.out.send rfl m[k] hm256).mono ?_; rintro e w3 ⟨vq3, rfl, hq3, hc3⟩; rw [if_neg h256]; rw [if_neg h256] at hq3; obtain ⟨hx3, hy3⟩ := lvlX hc3; have b0 := hx3 wo.heap.size 0 (by simp) (by rintro (h | h); (omega); (have := HV.out _ h; omega)); have b1 := hx3 wo.heap.size 1 (by simp) (by rintro (h | h); (omega); (have := HV.out _ h; omega)); have b2 := hx3 wo.heap.size 2 (by simp) (by rintro (h | h); (omega); (have := HV.out _ h; omega)); have b3 := hx3 wo.heap.size 3 (by simp) (by rintro (h | h); (omega); (have := HV.out _ h; omega)); have HQ3 := Lib.hid hq3; clear hq3 hc3 hx3 hy3)
        go_roundw
        case rel =>
          refine ⟨k + 1, vq3, by omega, by go_num, ?_⟩
          rw [HN.out]
          exact HQ3.out
        case measure => simp [intOf]; omega
    · obtain rfl : k = m.length := by omega
      clear hcw hfw
      have gt : (((sent m m.length).length : Int) != if (256 : Int) < (m.length : Int) + 1 then 256 else (m.length : Int) + 1) = false := by
        have := HS.out
        rw [this, bne_eq_false_iff_eq]
        split <;> omega
      have h32 : (sent m m.length).length * 32 ≤ 140737488355328 := by have := HS.out; omega
      have h45 : (sent m m.length).length ≤ 35184372088832 := by omega
      go_wp2_with (first | (go_at_call 13; refine (HQ9.out.rd (by simp)).mono ?_; rintro e wA ⟨AA, capA, rfl, heA, hqA⟩; have HQA := Lib.hid hqA; clear hqA heA HQ9) | (go_at_call 14; refine HQ8.out.turn.mono ?_; rintro e w9 ⟨rfl, hq9⟩; have HQ9 := Lib.hid hq9; clear hq9 HQ8) | (go_at_call 12; refine HQ8.out.waits.mono ?_; rintro e w' ⟨rfl, rfl⟩) | (go_at_call 15; refine (equal_evt_calls _ _ _ _ _ _ _ _ _ HE7.out HQ7.out.l.reads h45).mono ?_; rintro e w8 ⟨rfl, hb8⟩; rw [decide_eq_true (rfl : sent m m.length = sent m m.length)]; have HQ8 := Lib.hid (HQ7.out.below hb8); clear hb8 HQ7) | (go_at_call 13; refine (HQ6.out.rd h32).mono ?_; rintro e w7 ⟨A7, cap7, rfl, he7, hq7⟩; have HQ7 := Lib.hid hq7; have HE7 := Lib.hid he7; clear hq7 he7 HQ6) | (go_at_call 15; refine (equal_evt_calls _ _ _ _ _ _ _ _ _ HE5.out HQ5.out.l.reads h45).mono ?_; rintro e w6 ⟨rfl, hb6⟩; rw [decide_eq_true (rfl : sent m m.length = sent m m.length)]; have HQ6 := Lib.hid (HQ5.out.below hb6); clear hb6 HQ5) | (go_at_call 13; refine (HQ4.out.rd h32).mono ?_; rintro e w5 ⟨A5, cap5, rfl, he5, hq5⟩; have HQ5 := Lib.hid hq5; have HE5 := Lib.hid he5; clear hq5 he5 HQ4) | (go_at_call 14; refine HQ3.out.turn.mono ?_; rintro e w4 ⟨rfl, hq4⟩; have HQ4 := Lib.hid hq4; clear hq4 HQ3) | (go_at_call 13; refine (HQ.out.rd (by simp)).mono ?_; rintro e w3 ⟨A3, cap3, rfl, he3, hq3⟩; have HQ3 := Lib.hid hq3; clear hq3 he3 HQ))
      all_goals go_ret
      all_goals exact ⟨rfl, HQA.out.bel⟩
end Go.Proofs.Ytcfleoaldoebhaa

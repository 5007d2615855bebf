/-
  slices.Equal at []api.Event; package event's queue: New, Send, Waits, Read, Turn.
-/
import Derived.Test.YtcfleoaldoebhaaSlCEvt
import Derived.Test.YtcfleoaldoebhaaChg
import Derived.Deep.RegionLaw
namespace Go.Proofs.Ytcfleoaldoebhaa
set_option linter.unusedSimpArgs false
set_option linter.unusedVariables false
open Go.RowKit

theorem evts_ne_at {l m : List Evt} {n : Nat} (h1 : n < l.length) (h2 : n < m.length) (h : l[n] ≠ m[n]) : l ≠ m := by
  rintro rfl
  exact h rfl
abbrev evtV (e : Evt) : Value := .agg #[.int .i64 e.sys, .int .i64 e.ent.n, .int .i64 e.ent.gen, .int .i64 e.val]

theorem run_neq_evt (w : World) (a b : Evt) : (binOp .neq 30 (evtV a) (evtV b)).run Try.prog w = .ok (.bool (!decide (a = b))) w := by
  have h30 := Try.underlying30
  have h28 := Try.underlying28
  have h3 := Try.underlying3
  have p30 : Try.prog.stoodInHeld 30 = false := by kernel_rfl
  have p28 : Try.prog.stoodInHeld 28 = false := by kernel_rfl
  have s28 : (Try.prog.info? 28).map (·.size) = some 2 := by kernel_rfl
  have s3 : (Try.prog.info? 3).map (·.size) = some 1 := by kernel_rfl
  go_simp
  obtain ⟨s, ⟨n, g⟩, v⟩ := a
  obtain ⟨s', ⟨n', g'⟩, v'⟩ := b
  simp only [Evt.mk.injEq, Ent.mk.injEq]
  split
  · split
    · split
      · split <;> simp [*]
      · simp [*]
    · simp [*]
  · simp [*]

set_option maxRecDepth 100000 in
set_option maxHeartbeats 400000 in
theorem equal_evt_calls (l m : List Evt) (A A2 : Option Addr) (n cap n2 cap2 : Nat) (w : World) (hl : Evts w (Lt w) (.slice A n cap) l) (hm : Evts w (Lt w) (.slice A2 n2 cap2) m) (hlen : l.length ≤ 35184372088832) :
    Calls Try.prog 15 #[.slice A n cap, .slice A2 n2 cap2] w fun e w' => e = .returned (.bool (decide (l = m))) ∧ Below w.heap.size w w' := by
  obtain rfl := hl.len
  obtain rfl := hm.len
  by_cases hq : l.length = m.length
  · have g : ((l.length : Int) != m.length) = false := by simp; omega
    have Hq := Lib.hid hq
    clear hq
    go_enter Try.func15, Try.ntmps15
    go_wp2
    go_loopw [13] (fun i wr => ∃ n : Nat, n ≤ l.length ∧ i = .int .i64 n ∧ Hid (∀ j (h : j < n) (h1 : j < l.length) (h2 : j < m.length), l[j] = m[j]) ∧ Below w.heap.size w wr) (fun i _ => l.length - (intOf i).toNat)
    case atStart => exact ⟨0, by omega, rfl, fun j h => absurd h (by omega), Below.refl _ _⟩
    case round =>
      obtain ⟨n, hn, rfl, Hn, hb⟩ := hrel
      obtain ⟨hc3, hf3⟩ := lvl hb
      have o3 := olderB hb
      have s3 := hb.size
      have H3 := Lib.hid hb
      clear hb
      by_cases hlt : n < l.length
      · have hlt2 : n < m.length := by have := Hq.out; omega
        obtain ⟨b, off, rfl, hbl, c0, c1, c2, c3⟩ := hl.at hlt
        obtain ⟨b', off', rfl, hbl', d0, d1, d2, d3⟩ := hm.at hlt2
        unfold Lt at hbl hbl'
        have i0 : (0 : Int) ≤ (n : Int) := by omega
        have i1 : (n : Int) < (l.length : Int) := by omega
        have i2 : (n : Int) < (m.length : Int) := by omega
        have hgd : Try.prog.eqGuardType Try.prog.depth 30 = false := by kernel_rfl
        by_cases hq : l[n] = m[n]
        · have gq := fun W => run_neq_evt W l[n] m[n]
          rw [decide_eq_true hq] at gq
          have Hq2 := Lib.hid hq
          clear hq
          go_wp2
          (refine wp_region_q (by kernel_rfl) (by kernel_rfl) ?_; (repeat go_big_quiet_step (fail)); refine cls_nil ?_; intro w4 hb)
          go_wp2
          go_roundw
          case rel =>
            refine ⟨n + 1, by omega, by go_num, fun j hj h1 h2 => ?_, H3.out.trans (hb.mono s3)⟩
            rcases Nat.lt_or_ge j n with h | h
            · exact Hn.out j h h1 h2
            · obtain rfl : j = n := by omega
              exact Hq2.out
          case measure => simp [intOf]; omega
        · have gq := fun W => run_neq_evt W l[n] m[n]
          rw [decide_eq_false hq] at gq
          have Hq2 := Lib.hid hq
          clear hq
          go_wp2
          (refine wp_region_q (by kernel_rfl) (by kernel_rfl) ?_; (repeat go_big_quiet_step (fail)); refine cls_nil ?_; intro w4 hb)
          go_wp2
          go_ret
          refine ⟨ret_b ?_, H3.out.trans (hb.mono s3)⟩
          exact (decide_eq_false (evts_ne_at hlt hlt2 Hq2.out)).symm
      · go_wp2
        go_ret
        refine ⟨ret_b ?_, H3.out⟩
        exact (decide_eq_true (List.ext_getElem Hq.out fun j h1 h2 => Hn.out j (by omega) h1 h2)).symm
  · have g : ((l.length : Int) != m.length) = true := by simp; omega
    have Hq := Lib.hid hq
    clear hq
    go_enter Try.func15, Try.ntmps15
    go_wp2
    go_ret
    exact ⟨ret_b (decide_eq_false (fun e => Hq.out (by rw [e]))).symm, Below.refl _ _⟩

/-! ### the queue -/
theorem qnew_calls (w : World) : Calls Try.prog 10 #[] w fun e w' => e = .returned (.pointer (some ⟨w.heap.size, 0, none⟩)) ∧ w' = w.alloc (.cells #[.slice none 0 0, .slice none 0 0] 90) := by
  go_enter Try.func10, Try.ntmps10
  go_wp2
  go_ret
  exact ⟨rfl, rfl⟩

theorem qwaits_calls (g n cap : Nat) (A : Option Addr) (vr : Value) (w : World) (hB : Blk w g 90 #[.slice A n cap, vr]) : Calls Try.prog 12 #[.pointer (some ⟨g, 0, none⟩)] w fun e w' => e = .returned (.int .i64 n) ∧ w = w' := by
  have c0 := hB.cell 0
  simp at c0
  go_enter Try.func12, Try.ntmps12
  go_wp2
  go_ret
  exact ⟨rfl, rfl⟩

theorem qread_calls (l : List Evt) (g : Nat) (vq vr : Value) (w : World) (hB : Blk w g 90 #[vq, vr]) (hl : Evts w (Lt w) vr l) (hlen : l.length * 32 ≤ 140737488355328) : Calls Try.prog 13 #[.pointer (some ⟨g, 0, none⟩)] w (OwnPost 30 4 evtC (Lt w) w l) := by
  obtain ⟨A, cap, rfl, hc⟩ := hl.form
  have c1 := hB.cell 1
  simp at c1
  go_enter Try.func13, Try.ntmps13
  go_wp2_with (go_at_call 41; refine (clone_evt_calls l _ _ _ _ hl hlen).mono ?_; rintro e w1 ⟨v, rfl, ho, hb⟩)
  go_ret
  exact ⟨v, rfl, ho, hb⟩

theorem qturn_calls (g : Nat) (A A2 : Option Addr) (n cap n2 cap2 : Nat) (w : World) (hB : Blk w g 90 #[.slice A n cap, .slice A2 n2 cap2]) : Calls Try.prog 14 #[.pointer (some ⟨g, 0, none⟩)] w fun e w' => e = .returned (.tuple #[]) ∧ Blk w' g 90 #[.slice none 0 0, .slice A n cap] ∧ Chg (fun b => b = g) w w' := by
  have c0 := hB.cell 0
  have f0 := hB.frozen 0
  have f1 := hB.frozen 1
  have HB := Lib.hid hB
  have c1 := hB.cell 1
  simp at c0 c1
  clear hB
  go_enter Try.func14, Try.ntmps14
  go_wp2
  refine bodyPost_end (results_none rfl _ _ _) rfl ?_
  · refine ⟨rfl, ?_, ?_⟩
    · have := (HB.out.set_ 1 (.slice A n cap)).set_ 0 (.slice none 0 0)
      simpa using this
    · exact ((Chg.refl (fun b => b = g) _).setCell (p := ⟨g, 1, none⟩) _ (fun _ => rfl)).setCell (p := ⟨g, 0, none⟩) _ (fun _ => rfl)

def SendPost (e : Evt) (g base : Nat) (vq vr : Value) (l : List Evt) (w : World) (en : Ending) (w' : World) : Prop :=
  ∃ v', en = .returned (.int .i64 (if l.length < 256 then 0 else 6)) ∧ Blk w' g 90 #[v', vr] ∧ OwnL w' base 30 (fun _ => False) 4 evtC v' (if l.length < 256 then l ++ [e] else l) ∧ Chg (fun b => b = g ∨ vq.ownBlock = some b) w w' ∧
    (v'.ownBlock = vq.ownBlock ∨ ∃ k, v'.ownBlock = some k ∧ w.heap.size ≤ k)

set_option maxHeartbeats 400000 in
theorem qsend_calls (e : Evt) (g base : Nat) (vq vr : Value) (l : List Evt) (w : World) (hB : Blk w g 90 #[vq, vr]) (ho : OwnL w base 30 (fun _ => False) 4 evtC vq l) (hbase : base ≤ w.heap.size) (hne : vq.ownBlock ≠ some g) (hlen : l.length ≤ 256) :
    Calls Try.prog 11 #[.pointer (some ⟨g, 0, none⟩), evtV e] w (SendPost e g base vq vr l w) := by
  obtain ⟨A, cap, rfl, hc⟩ := ho.form
  have c0 := hB.cell 0
  have f0 := hB.frozen 0
  have hg := hB.lt
  simp at c0
  have HB := Lib.hid hB
  have HO := Lib.hid ho
  have HN := Lib.hid hne
  clear hB ho hne
  by_cases h256 : l.length < 256
  · have i1 : ¬ (256 : Int) ≤ (l.length : Int) := by omega
    go_enter Try.func11, Try.ntmps11
    go_wp2
    have HO2 : OwnL (w.alloc (.cells #[.int .i64 e.sys, .int .i64 e.ent.n, .int .i64 e.ent.gen, .int .i64 e.val] 30)).drew base 30 (fun _ => False) 4 evtC (Value.slice A l.length cap) l := HO.out.chg good_evt ((Chg.refl (fun _ => False) _).alloc _).drew (fun _ _ h => h) (fun _ _ _ h => h)
    have he : evtC (w.alloc (.cells #[.int .i64 e.sys, .int .i64 e.ent.n, .int .i64 e.ent.gen, .int .i64 e.val] 30)).drew (fun b => False ∧ b < (w.alloc (.cells #[.int .i64 e.sys, .int .i64 e.ent.n, .int .i64 e.ent.gen, .int .i64 e.val] 30)).drew.heap.size ∧ (Value.slice A l.length cap).ownBlock ≠ some b) [.int .i64 e.sys, .int .i64 e.ent.n, .int .i64 e.ent.gen, .int .i64 e.val] e := rfl
    have hB2 := (HB.out.alloc (.cells #[.int .i64 e.sys, .int .i64 e.ent.n, .int .i64 e.ent.gen, .int .i64 e.val] 30)).drew
    have HB2 := Lib.hid hB2
    clear hB2
    go_region_law ((refine step_app1 tEvts good_evt rfl _ _ (by rfl) (w.alloc (.cells #[.int .i64 e.sys, .int .i64 e.ent.n, .int .i64 e.ent.gen, .int .i64 e.val] 30)).drew (by rfl) (by exact congrArg (fun k => Value.slice (some ⟨k, 0, none⟩) 1 1) (show w.heap.size + 1 = (w.alloc (.cells #[.int .i64 e.sys, .int .i64 e.ent.n, .int .i64 e.ent.gen, .int .i64 e.val] 30)).drew.heap.size by simp)) HO2 he (by omega) (by simp [maxLen]; omega) (by simp; omega) ?_; intro v1 w1 ho1 hg1 hat1; obtain ⟨A1, k1, rfl, hk1⟩ := ho1.form; have hb1 := HB2.out.grown hg1 (fun e => HN.out e.symm); have hc1 := hb1.cell 0; have hf1 := hb1.frozen 0; simp only [List.getElem?_toArray, List.getElem?_cons_zero] at hc1; have HB1 := Lib.hid hb1; have HO1 := Lib.hid ho1; have HG1 := Lib.hid hg1; have HA1 := Lib.hid hat1; clear hb1 ho1 hg1 hat1))
    all_goals
      go_wp2
      go_ret
      unfold SendPost
      rw [if_pos h256, if_pos h256]
      refine ⟨_, rfl, by simpa using HB1.out.set_ 0 (.slice A1 (l.length + 1) k1), ?_, ?_, ?_⟩
      · have := HO1.out.chg good_evt ((Chg.refl (fun b => b = g) w1).setCell (p := ⟨g, 0, none⟩) (.slice A1 (l.length + 1) k1) (fun _ => rfl)) (fun b hb hb2 => by
          subst hb2
          rcases HA1.out with h | h
          · exact HN.out (h.symm.trans hb)
          · rw [hb] at h; injection h with h; simp at h; omega) (fun _ h _ => h.elim)
        simpa using this
      · refine (((Chg.refl _ w).alloc _).drew.trans (Y := fun b => (Value.slice A l.length cap).ownBlock = some b) (.of_grown HG1.out fun b hb _ => hb.symm) (fun b _ h => .inr h)).setCell (p := ⟨g, 0, none⟩) _ (fun _ => .inl rfl)
      · rcases HA1.out with h | h
        · exact .inl (by simpa using h)
        · exact .inr ⟨w.heap.size + 2, by simpa using h, by omega⟩
  · have i1 : (256 : Int) ≤ (l.length : Int) := by omega
    go_enter Try.func11, Try.ntmps11
    go_wp2
    go_ret
    unfold SendPost
    rw [if_neg h256, if_neg h256]
    refine ⟨_, rfl, HB.out.alloc _, ?_, (Chg.refl _ _).alloc _, .inl rfl⟩
    exact HO.out.chg good_evt ((Chg.refl (fun _ => False) _).alloc _) (fun _ _ h => h) (fun _ _ _ h => h)
end Go.Proofs.Ytcfleoaldoebhaa

/-
  A step of a proof about the given program: KindB. Conditions: those that each theorem names.
-/
import Derived.Test.YtcfleoaldoebhaaKindA
namespace Go.Proofs.Ytcfleoaldoebhaa
open Go.RowKit
set_option linter.unusedSimpArgs false
set_option linter.unusedVariables false

set_option maxHeartbeats 400000 in
theorem one_calls (k : Kind) (A : Option Addr) (cap : Nat) (w : World) (hf : Fields w (Lt w) (.slice A k.fields.length cap) k.fields) :
    Calls Try.prog 46 #[.agg #[strV k.name, .slice A k.fields.length cap]] w fun e w' => e = .returned (.int .i64 (oneErr k)) ∧ Below w.heap.size w w' := by
  by_cases hn : nameOk k.name = true
  · by_cases hl : 8 < k.fields.length
    · have H := Lib.hid (show oneErr k = 2 by simp [oneErr, hn, hl])
      go_enter Try.func46, Try.ntmps46
      go_wp2_with (go_at_call 67; refine (name_calls _ _).mono ?_; rintro e w' ⟨rfl, rfl⟩)
      all_goals go_ret
      all_goals exact ⟨ret_int (by rw [H.out]), (Below.refl _ _).alloc (Nat.le_refl _) _⟩
    · have H := Lib.hid (show oneErr k = fieldsErr [] k.fields by simp [oneErr, hn, hl])
      have hl8 : k.fields.length ≤ 8 := by omega
      clear hl
      go_enter Try.func46, Try.ntmps46
      go_wp2_with (go_at_call 67; refine (name_calls _ _).mono ?_; rintro e w' ⟨rfl, rfl⟩)
      go_loopw [19] (fun i wr => ∃ n : Nat, n ≤ k.fields.length ∧ i = .int .i64 n ∧ Hid (oneErr k = fieldsErr (k.fields.take n) (k.fields.drop n)) ∧ Below (w.heap.size + 1) (w.alloc (Obj.cells #[strV k.name, Value.slice A k.fields.length cap] 51)) wr) (fun i _ => k.fields.length - (intOf i).toNat)
      case atStart => exact ⟨0, by omega, rfl, by simpa [Hid] using H.out, Below.refl _ _⟩
      case round =>
        obtain ⟨n, hn1, rfl, Hn, hb⟩ := hrel
        clear H
        obtain ⟨hc, hfz⟩ := lvl hb
        have s1 : w.heap.size + 1 ≤ wr.heap.size := by simpa using hb.size
        have o1 := older (b := w.heap.size) (n := wr.heap.size) (by omega)
        have HB := Lib.hid hb
        clear hb
        by_cases hlt : n < k.fields.length
        · obtain ⟨b, off, rfl, hbl, c0, c1, c2⟩ := hf.at hlt
          unfold Lt at hbl
          have o2 := older (b := b) (n := wr.heap.size) (by omega)
          have hcap : n ≤ cap := by obtain ⟨A, c, e, h⟩ := hf.form; injection e with _ _ e; omega
          by_cases hfe : fieldErr k.fields[n] = 0
          · have g : (fieldErr k.fields[n] != 0) = false := by simp [hfe]
            have Hfe := Lib.hid hfe
            clear hfe
            go_wp2_with (go_at_call 47; refine (field_calls _ _).mono ?_; rintro e w2 ⟨rfl, hb2⟩; have HB2 := Lib.hid hb2; obtain ⟨hc2, hfz2⟩ := lvl hb2; have s2 : wr.heap.size + 1 ≤ w2.heap.size := (by simpa using hb2.size); have o3 := older (b := w.heap.size) (n := w2.heap.size) (by omega); have o4 := older (b := b) (n := w2.heap.size) (by omega); have o5 := older (b := wr.heap.size) (n := w2.heap.size) (by omega); clear hb2)
            obtain ⟨wq, rfl⟩ : ∃ wq : World, wq = wr := ⟨_, rfl⟩
            go_loopw [34] (fun j wr2 => ∃ m : Nat, m ≤ n ∧ j = .int .i64 m ∧ Hid (∀ j (h : j < m) (hl : j < k.fields.length), k.fields[j].name ≠ k.fields[n].name) ∧ Below w2.heap.size w2 wr2) (fun j _ => n - (intOf j).toNat)
            case atStart => exact ⟨0, by omega, rfl, fun j h => absurd h (by omega), Below.refl _ _⟩
            case round =>
              obtain ⟨wr2, rfl⟩ : ∃ wr2 : World, wr2 = wr := ⟨_, rfl⟩
              obtain ⟨m, hm1, rfl, Hm, hb3⟩ := hrel
              obtain ⟨hc3, hfz3⟩ := lvl hb3
              have s3 : w2.heap.size ≤ wr2.heap.size := hb3.size
              have o6 := older (b := w.heap.size) (n := wr2.heap.size) (by omega)
              have o7 := older (b := b) (n := wr2.heap.size) (by omega)
              have o8 := older (b := wq.heap.size) (n := wr2.heap.size) (by omega)
              have HB3 := Lib.hid hb3
              clear hb3
              by_cases hlt2 : m < n
              · obtain ⟨b', off', e', hbl', d0, d1, d2⟩ := hf.at (i := m) (by omega)
                simp only [Option.some.injEq, Addr.mk.injEq, and_true] at e'
                obtain ⟨rfl, rfl⟩ := e'
                by_cases hq : k.fields[m].name = k.fields[n].name
                · have gq : (k.fields[m].name == k.fields[n].name) = true := by simp [hq]
                  have Hq := Lib.hid hq
                  clear hq
                  go_wp2
                  go_ret
                  refine ⟨ret_int ?_, ?_⟩
                  · rw [Hn.out, fieldsErr_at hlt, fieldsErr_twice Hfe.out (j := m) (by simp; omega) (by simpa using Hq.out)]
                  · exact (bel0 (bel1 (bel1 (Below.refl _ _) (HB.out.mono (by simp)) (by omega)) HB2.out (by omega)) HB3.out (by omega)).alloc (by omega) _
                · have gq : (k.fields[m].name == k.fields[n].name) = false := by simp [hq]
                  have Hq := Lib.hid hq
                  clear hq
                  go_wp2
                  go_roundw
                  case rel =>
                    refine ⟨m + 1, by omega, by go_num, fun j hj hl => ?_, HB3.out.alloc (by omega) _⟩
                    rcases Nat.lt_or_ge j m with h | h
                    · exact Hm.out j h hl
                    · obtain rfl : j = m := by omega
                      exact Hq.out
                  case measure => simp [intOf]; omega
              · go_wp2
                go_roundw
                case rel =>
                  refine ⟨n + 1, by omega, by go_num, ?_, bel0 (bel1 HB.out HB2.out (by omega)) HB3.out (by omega)⟩
                  show _ = _
                  rw [Hn.out, fieldsErr_at hlt, fieldsErr_next Hfe.out, List.take_succ_eq_append_getElem hlt]
                  intro j hj
                  have hj' : j < n := by simp at hj; omega
                  simpa using Hm.out j (by omega) (by omega)
                case measure => simp [intOf]; omega
          · have g : (fieldErr k.fields[n] != 0) = true := by simp [hfe]
            have Hfe := Lib.hid hfe
            clear hfe
            go_wp2_with (go_at_call 47; refine (field_calls _ _).mono ?_; rintro e w2 ⟨rfl, hb2⟩; have HB2 := Lib.hid hb2; obtain ⟨hc2, hfz2⟩ := lvl hb2; clear hb2)
            go_ret
            refine ⟨ret_int ?_, ?_⟩
            · rw [Hn.out, fieldsErr_at hlt, fieldsErr_bad Hfe.out]
            · exact bel1 (bel1 (Below.refl _ _) (HB.out.mono (by simp)) (by omega)) HB2.out (by omega)
        · go_wp2
          go_ret
          refine ⟨ret_int ?_, ?_⟩
          · rw [Hn.out, fieldsErr_end (by omega)]
          · exact bel1 (Below.refl _ _) (HB.out.mono (by simp)) (by omega)
  · have hn' : nameOk k.name = false := by simpa using hn
    have H := Lib.hid (show oneErr k = 3 by simp [oneErr, hn])
    clear hn
    go_enter Try.func46, Try.ntmps46
    go_wp2_with (go_at_call 67; refine (name_calls _ _).mono ?_; rintro e w' ⟨rfl, rfl⟩)
    all_goals go_ret
    all_goals exact ⟨ret_int (by rw [H.out]), (Below.refl _ _).alloc (Nat.le_refl _) _⟩
end Go.Proofs.Ytcfleoaldoebhaa

/-
  A step of a proof about the given program: KindC. Conditions: those that each theorem names.
-/
import Derived.Test.YtcfleoaldoebhaaKindB
import Derived.Deep.RegionWith
import Derived.Deep.QuietTactic
import Derived.BigQuiet
namespace Go.Proofs.Ytcfleoaldoebhaa
open Go.RowKit
set_option linter.unusedSimpArgs false
set_option linter.unusedVariables false

set_option maxHeartbeats 400000 in
theorem find_calls (l : List Kind) (name : List UInt8) (A : Option Addr) (m0 cap : Nat) (w : World) (hk : Kinds w (Lt w) (.slice A m0 cap) l) (hl : l.length ≤ 1099511627776) :
    Calls Try.prog 24 #[.slice A m0 cap, strV name] w fun e w' => e = .returned (.int .i64 (findKind l name)) ∧ Below w.heap.size w w' := by
  obtain rfl := hk.len
  go_enter Try.func24, Try.ntmps24
  go_wp2
  go_loopw [9] (fun i wr => ∃ n : Nat, n ≤ l.length ∧ i = .int .i64 n ∧ Hid (∀ j (h : j < n) (hl : j < l.length), l[j].name ≠ name) ∧ Below w.heap.size w wr) (fun i _ => l.length - (intOf i).toNat)
  case atStart => exact ⟨0, by omega, rfl, fun j h => absurd h (by omega), Below.refl _ _⟩
  case round =>
    obtain ⟨n, hn, rfl, Hn, hb⟩ := hrel
    obtain ⟨hc, hf⟩ := lvl hb
    have o1 := olderB hb
    have s1 := hb.size
    have H1 := Lib.hid hb
    clear hb
    by_cases hlt : n < l.length
    · obtain ⟨b, off, B, m, rfl, hbl, c0, c1, -⟩ := hk.at hlt
      unfold Lt at hbl
      by_cases hq : l[n].name = name
      · have gq : (l[n].name == name) = true := by simp [hq]
        have Hq := Lib.hid hq
        clear hq
        go_wp2
        go_ret
        refine ⟨ret_int ?_, H1.out.alloc (by omega) _⟩
        rw [findKind_some hlt Hq.out (fun j hj => Hn.out j hj (by omega))]
      · have gq : (l[n].name == name) = false := by simp [hq]
        have Hq := Lib.hid hq
        clear hq
        go_wp2
        go_roundw
        case rel =>
          refine ⟨n + 1, by omega, by go_num, fun j hj hl => ?_, H1.out.alloc (by omega) _⟩
          rcases Nat.lt_or_ge j n with h | h
          · exact Hn.out j h hl
          · obtain rfl : j = n := by omega
            exact Hq.out
        case measure => simp [intOf]; omega
    · go_wp2
      go_ret
      refine ⟨ret_int ?_, H1.out⟩
      rw [findKind_none (fun j hj => Hn.out j (by omega) hj)]

set_option maxHeartbeats 400000 in
theorem check_calls (l : List Kind) (A : Option Addr) (m0 cap : Nat) (w : World) (hk : Kinds w (Lt w) (.slice A m0 cap) l) :
    Calls Try.prog 22 #[.slice A m0 cap] w fun e w' => e = .returned (.int .i64 (checkErr l)) ∧ Below w.heap.size w w' := by
  obtain rfl := hk.len
  by_cases hl : 16 < l.length
  · have H := Lib.hid (show checkErr l = 2 by simp [checkErr, hl])
    go_enter Try.func22, Try.ntmps22
    go_wp2
    go_ret
    exact ⟨ret_int (by rw [H.out]), Below.refl _ _⟩
  · have H := Lib.hid (show checkErr l = kindsErr [] l by simp [checkErr, hl])
    have hl16 : l.length ≤ 16 := by omega
    clear hl
    go_enter Try.func22, Try.ntmps22
    go_wp2
    go_loopw [11] (fun i wr => ∃ n : Nat, n ≤ l.length ∧ i = .int .i64 n ∧ Hid (checkErr l = kindsErr (l.take n) (l.drop n)) ∧ Below w.heap.size w wr) (fun i _ => l.length - (intOf i).toNat)
    case atStart => exact ⟨0, by omega, rfl, by simpa [Hid] using H.out, Below.refl _ _⟩
    case round =>
      obtain ⟨n, hn, rfl, Hn, hb⟩ := hrel
      obtain ⟨hc, hf⟩ := lvl hb
      have o1 := olderB hb
      have s1 := hb.size
      have H1 := Lib.hid hb
      clear hb H
      by_cases hlt : n < l.length
      · have hcap : n ≤ cap := by obtain ⟨A, c, e, h⟩ := hk.form; injection e with _ _ e; omega
        obtain ⟨b, off, B, m, rfl, hbl, c0, c1, hfs⟩ := hk.at hlt
        unfold Lt at hbl
        have hfs2 : ∀ o, Fields (wr.alloc o) (Lt (wr.alloc o)) (.slice B l[n].fields.length m) l[n].fields := fun o => hfs.to (fun b hb => by unfold Lt at *; simp; omega) (Same.lt (H1.out.alloc (by omega) o))
        by_cases ho : oneErr l[n] = 0
        · have g : (oneErr l[n] != 0) = false := by simp [ho]
          have Ho := Lib.hid ho
          clear ho
          go_wp2_with (go_at_call 46; refine (one_calls l[n] _ _ _ (hfs2 _)).mono ?_; rintro e w2 ⟨rfl, hb⟩; obtain ⟨hc2, hf2⟩ := lvl hb; have H2 : Hid (Below w.heap.size w w2) := Below.trans (by ((repeat (first | exact Below.refl _ _ | exact H1.out | refine Below.alloc ?_ (by first | omega | (simp; omega) | simp) _ | refine Below.setCell ?_ (by first | omega | (simp; omega) | simp) _ | refine Below.drew ?_ | refine belN ?_ _)))) (hb.mono (by first | omega | (simp; omega) | simp)); have o2 := olderB H2.out; have s2 := H2.out.size; have t2 := hb.size; (try simp at t2); clear hb)
          have hkt : ∀ W, Below w.heap.size w W → Kinds W (Lt W) (.slice (some ⟨b, off, none⟩) n cap) (l.take n) := fun W hW => (hk.take hn).to (fun _ _ h => kindC.to h (fun b hb => by unfold Lt at *; have := hW.size; omega) (Same.lt hW)) (fun b hb => by unfold Lt at *; have := hW.size; omega) (Same.lt hW)
          rcases Int.lt_or_le (findKind (l.take n) l[n].name) 0 with hq | hq
          · go_region_with (go_at_call 24; refine (find_calls (l.take n) _ _ _ _ _ (hkt _ H2.out.drew) (by rw [List.length_take]; omega)).mono ?_; rintro e w3 ⟨rfl, hb⟩; have H3 := Lib.hid (H2.out.drew.trans (hb.mono s2)); clear hb)
            go_wp2
            go_roundw
            case rel =>
              refine ⟨n + 1, by omega, by go_num, ?_, H3.out⟩
              show _ = _
              rw [Hn.out, kindsErr_at hlt, kindsErr_next Ho.out hq, List.take_succ_eq_append_getElem hlt]
            case measure => simp [intOf]; omega
          · go_region_with (go_at_call 24; refine (find_calls (l.take n) _ _ _ _ _ (hkt _ H2.out.drew) (by rw [List.length_take]; omega)).mono ?_; rintro e w3 ⟨rfl, hb⟩; have H3 := Lib.hid (H2.out.drew.trans (hb.mono s2)); clear hb)
            go_wp2
            go_ret
            refine ⟨ret_int ?_, H3.out⟩
            rw [Hn.out, kindsErr_at hlt, kindsErr_twice Ho.out hq]
        · have g : (oneErr l[n] != 0) = true := by simp [ho]
          have Ho := Lib.hid ho
          clear ho
          go_wp2_with (go_at_call 46; refine (one_calls l[n] _ _ _ (hfs2 _)).mono ?_; rintro e w2 ⟨rfl, hb⟩; obtain ⟨hc2, hf2⟩ := lvl hb; have H2 : Hid (Below w.heap.size w w2) := Below.trans (by ((repeat (first | exact Below.refl _ _ | exact H1.out | refine Below.alloc ?_ (by first | omega | (simp; omega) | simp) _ | refine Below.setCell ?_ (by first | omega | (simp; omega) | simp) _ | refine Below.drew ?_ | refine belN ?_ _)))) (hb.mono (by first | omega | (simp; omega) | simp)); have o2 := olderB H2.out; have s2 := H2.out.size; have t2 := hb.size; (try simp at t2); clear hb)
          go_ret
          refine ⟨ret_int ?_, H2.out⟩
          rw [Hn.out, kindsErr_at hlt, kindsErr_bad Ho.out]
      · go_wp2
        go_ret
        refine ⟨ret_int ?_, H1.out⟩
        rw [Hn.out, kindsErr_end (by omega)]
end Go.Proofs.Ytcfleoaldoebhaa

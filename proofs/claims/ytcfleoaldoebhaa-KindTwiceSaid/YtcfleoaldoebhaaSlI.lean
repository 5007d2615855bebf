/-
  slices.Clone, Equal, Index, Contains, IndexFunc, ContainsFunc at []int.
-/
import Derived.Test.YtcfleoaldoebhaaBase
namespace Go.Proofs.Ytcfleoaldoebhaa
set_option linter.unusedSimpArgs false
set_option linter.unusedVariables false
open Go.RowKit

theorem tInts : SlT Try.prog 35 3 1 8 (.int .i64 0) := ⟨Try.underlying35, by kernel_rfl, rfl, by decide⟩

theorem ret_b {a b : Bool} (h : a = b) : Ending.returned (.bool a) = .returned (.bool b) := by rw [h]
theorem ints_ne_at {l m : List Int} {n : Nat} (h1 : n < l.length) (h2 : n < m.length) (h : l[n] ≠ m[n]) : l ≠ m := by
  rintro rfl
  exact h rfl
/-- A list in new memory. -/
def OwnPost {α : Type} (e : TypeId) (sz : Nat) (C : World → Reg → List Value → α → Prop) (S : Reg) (w : World) (l : List α) (en : Ending) (w' : World) : Prop :=
  ∃ v, en = .returned v ∧ OwnL w' w.heap.size e S sz C v l ∧ Below w.heap.size w w'
theorem own_lit0 {α : Type} (w : World) (base : Nat) (e : TypeId) (S : Reg) (sz : Nat) (C : World → Reg → List Value → α → Prop) (hb : base ≤ w.heap.size) : OwnL (w.alloc (.cells #[] e)) base e S sz C (.slice (some ⟨w.heap.size, 0, none⟩) 0 0) ([] : List α) :=
  ⟨[], World.ownsRow_made w #[] 0 hb (by simp [maxLen]) (by simp), rfl⟩

set_option maxRecDepth 100000 in
set_option maxHeartbeats 400000 in
theorem clone_int_calls (l : List Int) (A : Option Addr) (n cap : Nat) (w : World) (hl : Ints w (Lt w) (.slice A n cap) l) (hlen : l.length * 8 ≤ 140737488355328) :
    Calls Try.prog 20 #[.slice A n cap] w (OwnPost 3 1 intC (Lt w) w l) := by
  obtain rfl := hl.len
  have hnil := fun W a n c => Lib.run_eql_slice_nil (P := Try.prog) W 35 3 a n c 0 0 Try.underlying35
  cases A with
  | none =>
    have h0 : l = [] := by
      rcases Nat.eq_zero_or_pos l.length with h | h
      · exact List.eq_nil_of_length_eq_zero h
      · obtain ⟨b, off, c, e, _⟩ := Sl.at hl h
        cases e
    subst h0
    go_enter Try.func20, Try.ntmps20
    go_wp2
    go_ret
    exact ⟨_, rfl, OwnL.nil _ _ _ _ _ _, Below.refl _ _⟩
  | some ad =>
    have hb1 : Below w.heap.size w (w.alloc (.cells #[] 3)) := (Below.refl _ _).alloc (Nat.le_refl _) _
    have HS := Lib.hid (Sl.to hl (fun c x h => good_int.to _ _ _ _ _ _ h (fun b hb => show b < w.heap.size ∧ b < (w.alloc (.cells #[] 3)).heap.size ∧ some w.heap.size ≠ some b from ⟨hb, by simp; unfold Lt at hb; omega, fun e => by injection e with e; unfold Lt at hb; omega⟩) (Same.lt hb1)) (fun b hb => show b < w.heap.size ∧ b < (w.alloc (.cells #[] 3)).heap.size ∧ some w.heap.size ≠ some b from ⟨hb, by simp; unfold Lt at hb; omega, fun e => by injection e with e; unfold Lt at hb; omega⟩) (Same.lt hb1))
    go_enter Try.func20, Try.ntmps20
    go_wp2_with (at_builtin; refine wpList_app tInts good_int rfl _ _ rfl _ rfl rfl (own_lit0 w w.heap.size 3 (Lt w) 1 intC (Nat.le_refl _)) HS.out (by simp only [List.length_nil, Nat.zero_add]; omega) (by simp only [List.length_nil, Nat.zero_add, maxLen]; omega) (by simp) ?_; intro v1 w1 hown hg hat)
    go_ret
    refine ⟨_, rfl, by simpa using hown, hb1.grown hg (by simp) fun k hk => ?_⟩
    injection hk with hk
    exact Nat.le_of_eq hk

set_option maxRecDepth 100000 in
set_option maxHeartbeats 400000 in
theorem equal_int_calls (l m : List Int) (A A2 : Option Addr) (n cap n2 cap2 : Nat) (w : World) (hl : Ints w (Lt w) (.slice A n cap) l) (hm : Ints w (Lt w) (.slice A2 n2 cap2) m) (hlen : l.length ≤ 35184372088832) :
    Calls Try.prog 26 #[.slice A n cap, .slice A2 n2 cap2] w fun e w' => e = .returned (.bool (decide (l = m))) ∧ Below w.heap.size w w' := by
  obtain rfl := hl.len
  obtain rfl := hm.len
  by_cases hq : l.length = m.length
  · have g : ((l.length : Int) != m.length) = false := by simp; omega
    have Hq := Lib.hid hq
    clear hq
    go_enter Try.func26, Try.ntmps26
    go_wp2
    go_loopw [13] (fun i wr => ∃ n : Nat, n ≤ l.length ∧ i = .int .i64 n ∧ Hid (∀ j (h : j < n) (h1 : j < l.length) (h2 : j < m.length), l[j] = m[j]) ∧ Below w.heap.size w wr) (fun i _ => l.length - (intOf i).toNat)
    case atStart => exact ⟨0, by omega, rfl, fun j h => absurd h (by omega), Below.refl _ _⟩
    case round =>
      obtain ⟨n, hn, rfl, Hn, hb⟩ := hrel
      obtain ⟨hc3, hf3⟩ := lvl hb
      have o3 := olderB hb
      have s3 := hb.size
      have H3 := Lib.hid hb
      clear hb
      by_cases hlt : n < l.length
      · have hlt2 : n < m.length := by have := Hq.out; omega
        obtain ⟨b, off, rfl, hbl, c0⟩ := hl.at hlt
        obtain ⟨b', off', rfl, hbl', d0⟩ := hm.at hlt2
        unfold Lt at hbl hbl'
        have i0 : (0 : Int) ≤ (n : Int) := by omega
        have i1 : (n : Int) < (l.length : Int) := by omega
        have i2 : (n : Int) < (m.length : Int) := by omega
        by_cases hq : l[n] = m[n]
        · have gq : (l[n] != m[n]) = false := by simp [hq]
          have Hq2 := Lib.hid hq
          clear hq
          go_wp2
          (refine wp_region_q (by kernel_rfl) (by kernel_rfl) ?_; (repeat go_big_quiet_step (fail)); refine cls_nil ?_; intro w4 hb)
          go_wp2
          go_roundw
          case rel =>
            refine ⟨n + 1, by omega, by go_num, fun j hj h1 h2 => ?_, H3.out.trans (hb.mono s3)⟩
            rcases Nat.lt_or_ge j n with h | h
            · exact Hn.out j h h1 h2
            · obtain rfl : j = n := by omega
              exact Hq2.out
          case measure => simp [intOf]; omega
        · have gq : (l[n] != m[n]) = true := by simp [hq]
          have Hq2 := Lib.hid hq
          clear hq
          go_wp2
          (refine wp_region_q (by kernel_rfl) (by kernel_rfl) ?_; (repeat go_big_quiet_step (fail)); refine cls_nil ?_; intro w4 hb)
          go_wp2
          go_ret
          refine ⟨ret_b ?_, H3.out.trans (hb.mono s3)⟩
          exact (decide_eq_false (ints_ne_at hlt hlt2 Hq2.out)).symm
      · go_wp2
        go_ret
        refine ⟨ret_b ?_, H3.out⟩
        exact (decide_eq_true (List.ext_getElem Hq.out fun j h1 h2 => Hn.out j (by omega) h1 h2)).symm
  · have g : ((l.length : Int) != m.length) = true := by simp; omega
    have Hq := Lib.hid hq
    clear hq
    go_enter Try.func26, Try.ntmps26
    go_wp2
    go_ret
    exact ⟨ret_b (decide_eq_false (fun e => Hq.out (by rw [e]))).symm, Below.refl _ _⟩

def idxOf (l : List Int) (x : Int) : Int := match l.findIdx? (fun y => y == x) with | some i => i | none => -1
theorem idxOf_none {l : List Int} {x : Int} (h : ∀ j (hj : j < l.length), l[j] ≠ x) : idxOf l x = -1 := by
  have : l.findIdx? (fun y => y == x) = none := by
    rw [List.findIdx?_eq_none_iff]
    intro y hy
    obtain ⟨j, hj, rfl⟩ := List.getElem_of_mem hy
    simpa using h j hj
  simp [idxOf, this]
theorem idxOf_some {l : List Int} {x : Int} {i : Nat} (hi : i < l.length) (e : l[i] = x) (h : ∀ j (hj : j < i), (l[j]'(by omega)) ≠ x) : idxOf l x = i := by
  have : l.findIdx? (fun y => y == x) = some i := by
    rw [List.findIdx?_eq_some_iff_getElem]
    exact ⟨hi, by simpa using e, fun j hj => by simpa using h j hj⟩
  simp [idxOf, this]
theorem idxOf_nonneg (l : List Int) (x : Int) : decide (0 ≤ idxOf l x) = decide (x ∈ l) := by
  unfold idxOf
  split
  · rename_i i h
    rw [List.findIdx?_eq_some_iff_getElem] at h
    obtain ⟨hi, e, _⟩ := h
    have : x ∈ l := by
      have e' : l[i] = x := by simpa using e
      exact e' ▸ List.getElem_mem hi
    simp [this]
  · rename_i h
    rw [List.findIdx?_eq_none_iff] at h
    have : ¬ x ∈ l := fun hx => by simpa using h x hx
    simp [this]

set_option maxRecDepth 100000 in
set_option maxHeartbeats 400000 in
theorem index_int_calls (l : List Int) (x : Int) (A : Option Addr) (n cap : Nat) (w : World) (hl : Ints w (Lt w) (.slice A n cap) l) (hlen : l.length ≤ 35184372088832) :
    Calls Try.prog 73 #[.slice A n cap, .int .i64 x] w fun e w' => e = .returned (.int .i64 (idxOf l x)) ∧ w = w' := by
  obtain rfl := hl.len
  go_enter Try.func73, Try.ntmps73
  go_wp2
  go_loop [8] (fun i => ∃ n : Nat, n ≤ l.length ∧ i = .int .i64 n ∧ Hid (∀ j (h : j < n) (h1 : j < l.length), l[j] ≠ x)) (fun i => l.length - (intOf i).toNat)
  case atStart => exact ⟨0, by omega, rfl, fun j h => absurd h (by omega)⟩
  case round =>
    obtain ⟨n, hn, rfl, Hn⟩ := hrel
    by_cases hlt : n < l.length
    · obtain ⟨b, off, rfl, hbl, c0⟩ := hl.at hlt
      unfold Lt at hbl
      by_cases hq : l[n] = x
      · have gq : (x == l[n]) = true := by simp [hq]
        have Hq2 := Lib.hid hq
        clear hq
        go_wp2
        go_ret
        exact ⟨ret_i (idxOf_some hlt Hq2.out fun j hj => Hn.out j hj (by omega)).symm, rfl⟩
      · have gq : (x == l[n]) = false := by simp; exact fun e => hq e.symm
        have Hq2 := Lib.hid hq
        clear hq
        go_wp2
        go_round
        case rel =>
          refine ⟨n + 1, by omega, by go_num, fun j hj h1 => ?_⟩
          rcases Nat.lt_or_ge j n with h | h
          · exact Hn.out j h h1
          · obtain rfl : j = n := by omega
            exact Hq2.out
        case measure => simp [intOf]; omega
    · go_wp2
      go_ret
      exact ⟨ret_i (idxOf_none fun j hj => Hn.out j (by omega) hj).symm, rfl⟩

set_option maxHeartbeats 400000 in
theorem contains_int_calls (l : List Int) (x : Int) (A : Option Addr) (n cap : Nat) (w : World) (hl : Ints w (Lt w) (.slice A n cap) l) (hlen : l.length ≤ 35184372088832) :
    Calls Try.prog 53 #[.slice A n cap, .int .i64 x] w fun e w' => e = .returned (.bool (decide (x ∈ l))) ∧ w = w' := by
  have H := Lib.hid (idxOf_nonneg l x)
  go_enter Try.func53, Try.ntmps53
  go_wp2_with (go_at_call 73; refine (index_int_calls _ _ _ _ _ _ hl hlen).mono ?_; rintro e w' ⟨rfl, rfl⟩)
  go_ret
  exact ⟨ret_b (by rw [← H.out]), rfl⟩
end Go.Proofs.Ytcfleoaldoebhaa

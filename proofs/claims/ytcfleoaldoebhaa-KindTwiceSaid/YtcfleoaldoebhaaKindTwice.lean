/-
  The law KindTwice's walk.
-/
import Derived.Test.YtcfleoaldoebhaaMakeB
import Derived.Test.YtcfleoaldoebhaaMakeL
import Derived.Test.YtcfleoaldoebhaaSlCKind
import Derived.Test.YtcfleoaldoebhaaKindC
import Derived.Deep.RegionHeld3
namespace Go.Proofs.Ytcfleoaldoebhaa
set_option linter.unusedSimpArgs false
set_option linter.unusedVariables false
open Go.RowKit

/-- What is known of a literal that was laid ahead of a call. -/
theorem lit_far {w1 Wc w2 : World} {c : List Value} {y : Kind} {v2 : Value} {S : Reg} {l : List Kind} (hki : kindC w1 (Lt w1) c y) (hv : ∀ k, v2.ownBlock = some k → w1.heap.size ≤ k) (hb2 : Below Wc.heap.size Wc w2) (ho2 : OwnL w2 Wc.heap.size 51 S 2 kindC v2 l) :
    Hid ((Wc.heap.size = w1.heap.size + 1 ∧ (∀ b, b < w1.heap.size → Wc.heap[b]? = w1.heap[b]?) ∧ Wc.heap[w1.heap.size]? = some (.cells c.toArray 51 (0, 0))) → Sl w2 (fun b => Lt w2 b ∧ b < w2.heap.size ∧ v2.ownBlock ≠ some b) 2 kindC (.slice (some ⟨w1.heap.size, 0, none⟩) 1 1) [y]) := by
  show _ → _
  rintro ⟨hs, hsame, hc⟩
  have h2 := hb2.size
  refine ⟨c, ⟨?_, some ⟨w1.heap.size, 0, none⟩, 1, rfl, Nat.le_refl _, fun _ => ⟨w1.heap.size, 0, rfl, ⟨by show _ < _; omega, by omega, fun e => by have := (ho2.block e).1; omega⟩, fun j u hu => ?_⟩⟩, Cells.one (good_kind.len _ _ _ _ hki) (kindC.to hki ?_ ?_)⟩
  · simp [good_kind.len _ _ _ _ hki]
  · have : w2.heap[w1.heap.size]? = some (.cells c.toArray 51 (0, 0)) := (hb2.block _ (by omega)).trans hc
    rw [cell_of_row _ _ (0 + j) c.toArray _ (0, 0) this]
    simpa using hu
  · intro b (h : b < w1.heap.size)
    exact ⟨by show _ < _; omega, by omega, fun e => by have := hv b e; omega⟩
  · intro b (h : b < w1.heap.size)
    exact (hb2.block b (by omega)).trans (hsame b h)

set_option maxRecDepth 100000 in
set_option maxHeartbeats 800000 in
theorem kindTwice_calls (l : List Int) (A0 : Option Addr) (n0 cap0 : Nat) (x : Int) (w : World) (hl : Ints w (Lt w) (.slice A0 n0 cap0) l) (hlen : l.length * 8 ≤ 140737488355328) (hx : I64 x) :
    Calls Try.prog 5 #[.slice A0 n0 cap0, .int .i64 x] w fun e w' => e = .returned (.bool true) ∧ Below w.heap.size w w' := by
  have hk4 := genKinds_len l
  have hok := Lib.hid (genKinds_check l)
  have hdup := Lib.hid (fun i (h : i < (genKinds l).1.length) => genKinds_twice l h)
  have hfind := Lib.hid (fun i (h : i < (genKinds l).1.length) => find_nodup (genKinds_nodup l) h)
  generalize hks : (genKinds l).1 = ks at *
  obtain ⟨hk1, hk2⟩ := hk4
  go_enter Try.func5, Try.ntmps5
  go_upto_region 3 with (first
    | (go_at_call 21; refine (kindsE_calls l _ _ _ _ hl (by omega)).mono ?_; rintro e w1 ⟨v, rfl, ho1, hb1⟩; rw [hks] at ho1; obtain ⟨A, cap, rfl, _⟩ := ho1.form)
    | (go_at_call 19; refine (below_calls x _ _ (by omega) (by omega)).mono ?_; rintro e w' ⟨rfl, rfl⟩))
  have hr1 : 0 ≤ x % (ks.length : Int) := Int.emod_nonneg _ (by omega)
  have hr2 : x % (ks.length : Int) < ks.length := Int.emod_lt_of_pos _ (by omega)
  obtain ⟨i, hi⟩ : ∃ i : Nat, x % (ks.length : Int) = i := ⟨(x % (ks.length : Int)).toNat, by omega⟩
  rw [hi] at hr1 hr2 ⊢
  have hil : i < ks.length := by omega
  have hk1' : Kinds w1 (Lt w1) (.slice A ks.length cap) ks := Kinds.to (ho1.readW good_kind) (fun b h => h.1) (Same.refl _ _)
  obtain ⟨b, off, B, m, rfl, hbl, c0, c1, hf⟩ := Kinds.at hk1' hil
  unfold Lt at hbl
  have hKup : Hid (∀ W, Below w1.heap.size w1 W → Kinds W (Lt W) (.slice (some ⟨b, off, none⟩) ks.length cap) ks) := Lib.hid (fun W h => hk1'.up h)
  have hki : Hid (kindC w1 (Lt w1) [strV ks[i].name, .slice B ks[i].fields.length m] ks[i]) := Lib.hid ⟨_, rfl, hf⟩
  have HB1 := Lib.hid hb1
  have o1 := older hbl
  clear ho1 hk1' hf hb1 hl
  go_region_held3 (fun w' => w'.cell? ⟨b, off + i * 2, none⟩ = some (strV ks[i].name) ∧ w'.cell? ⟨b, off + i * 2 + 1, none⟩ = some (.slice B ks[i].fields.length m)) (go_keep)
    (first
      | (go_at_call 24; refine (find_calls ks ks[i].name _ _ _ _ (hKup.out _ H5.out) (by omega)).mono ?_; rintro e w6 ⟨rfl, hb6⟩; rw [hfind.out i hil]; have H6 : Hid (Below w1.heap.size w1 w6) := Lib.hid (H5.out.trans (hb6.mono s5)); obtain ⟨hc6, hf6⟩ := lvl H6.out; clear hb6)
      | (go_at_call 22; refine (check_calls ks _ _ _ _ (hKup.out _ H4.out)).mono ?_; rintro e w5 ⟨rfl, hb5⟩; rw [hok.out]; have H5 : Hid (Below w1.heap.size w1 w5) := Lib.hid (H4.out.trans (hb5.mono s4)); have s5 := H5.out.size; obtain ⟨hc5, hf5⟩ := lvl H5.out; clear hb5)
      | (go_at_call 22; refine (check_calls _ _ _ _ _ HK3.out).mono ?_; rintro e w4 ⟨rfl, hb4⟩; rw [hdup.out i hil]; have H4 : Hid (Below w1.heap.size w1 w4) := Lib.hid (H3.out.trans (hb4.mono s3)); have s4 := H4.out.size; obtain ⟨hc4, hf4⟩ := lvl H4.out; clear hb4)
      | (refine step_app1 tKinds good_kind (by rfl) _ _ (by rfl) w2 (c := [strV ks[i].name, .slice B ks[i].fields.length m]) (y := ks[i]) (by rfl) (by rfl) HO2.out HC2.out (by omega) (by simp [maxLen]; omega) s2 ?_; intro v3 w3 ho3 hg3 hat3; obtain ⟨A3, k3, rfl, _⟩ := ho3.form; have hk3 : Kinds w3 (Lt w3) (.slice A3 (ks.length + 1) k3) (ks ++ [ks[i]]) := (by have hz := Kinds.to (ho3.readW good_kind) (fun b h => h.1) (Same.refl _ _); rw [List.length_append] at hz; exact hz); have H3 : Hid (Below w1.heap.size w1 w3) := Lib.hid (H2.out.grown hg3 s2 fun k hk => HV2.out k hk); have HK3 := Lib.hid hk3; have s3 := H3.out.size; obtain ⟨hc3, hf3⟩ := lvl H3.out; clear hk3 ho3 hg3 hat3)
      | (refine step_app tKinds good_kind (by rfl) _ _ (by rfl) w2 (by rfl) (y := .slice (some ⟨w1.heap.size, 0, none⟩) 1 1) (by rfl) HO2.out (ls := [ks[i]]) (HL2.out ⟨by simp, fun b h => Below.heap_alloc w1 _ b h, heap_alloc_new w1 _⟩) (by simp; omega) (by simp [maxLen]; omega) s2 ?_; intro v3 w3 ho3 hg3 hat3; obtain ⟨A3, k3, rfl, _⟩ := ho3.form; have hk3 : Kinds w3 (Lt w3) (.slice A3 (ks.length + 1) k3) (ks ++ [ks[i]]) := (by have hz := Kinds.to (ho3.readW good_kind) (fun b h => h.1) (Same.refl _ _); rw [List.length_append] at hz; exact hz); have H3 : Hid (Below w1.heap.size w1 w3) := Lib.hid (H2.out.grown hg3 s2 fun k hk => HV2.out k hk); have HK3 := Lib.hid hk3; have s3 := H3.out.size; obtain ⟨hc3, hf3⟩ := lvl H3.out; clear hk3 ho3 hg3 hat3)
      | (go_at_call 23; refine (clone_kind_calls ks _ _ _ _ (hKup.out _ (by ((repeat (first | exact Below.refl _ _ | refine Below.alloc ?_ (by first | omega | (simp; omega) | simp) _ | refine Below.setCell ?_ (by first | omega | (simp; omega) | simp) _ | refine Below.drew ?_ | refine belN ?_ _))))) (by omega)).mono ?_; rintro e w2 ⟨v2, rfl, ho2, hb2⟩; have H2 : Hid (Below w1.heap.size w1 w2) := Below.trans (by ((repeat (first | exact Below.refl _ _ | refine Below.alloc ?_ (by first | omega | (simp; omega) | simp) _ | refine Below.setCell ?_ (by first | omega | (simp; omega) | simp) _ | refine Below.drew ?_ | refine belN ?_ _)))) (hb2.mono (by first | omega | (simp; omega) | simp)); obtain ⟨hc2, hf2⟩ := lvl H2.out; have s2 := H2.out.size;
          have HV2 : Hid (∀ k, v2.ownBlock = some k → w1.heap.size ≤ k) := Lib.hid (fun k hk => Nat.le_trans (by first | omega | (simp; omega) | simp) (ho2.block hk).1);
          have HO2 : Hid (OwnL w2 w1.heap.size 51 (Lt w2) 2 kindC v2 ks) := Lib.hid (ho2.weaken good_kind (by first | omega | (simp; omega) | simp) (fun b _ h => h));
          have HC2 : Hid (kindC w2 (fun b => Lt w2 b ∧ b < w2.heap.size ∧ v2.ownBlock ≠ some b) [strV ks[i].name, .slice B ks[i].fields.length m] ks[i]) := Lib.hid (kindC.to hki.out (fun b (h : b < w1.heap.size) => ⟨Nat.lt_of_lt_of_le h s2, Nat.lt_of_lt_of_le h s2, fun e => by have := HV2.out b e; omega⟩) (Same.lt H2.out));
          have HL2 := lit_far hki.out HV2.out hb2 ho2))
  all_goals go_wp2
  all_goals go_ret
  all_goals exact ⟨rfl, HB1.out.trans (H6.out.mono HB1.out.size)⟩
end Go.Proofs.Ytcfleoaldoebhaa

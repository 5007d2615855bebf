/-
  A step of a proof about the given program: MakeA. Conditions: those that each theorem names.
-/
import Derived.Test.YtcfleoaldoebhaaSlI
import Derived.Deep.DeepCutAuto
import Derived.Deep.RegionWith
import Derived.IntWalk
namespace Go.Proofs.Ytcfleoaldoebhaa
set_option linter.unusedSimpArgs false
set_option linter.unusedVariables false
open Go.RowKit

theorem tFields : SlT Try.prog 49 62 3 32 (.agg #[.string ByteArray.empty, .int .i64 0, .int .i64 0]) := ⟨Try.underlying49, by kernel_rfl, rfl, by decide⟩
theorem tKinds : SlT Try.prog 36 51 2 40 (.agg #[.string ByteArray.empty, .slice none 0 0]) := ⟨Try.underlying36, by kernel_rfl, rfl, by decide⟩

def GenPost {α : Type} (e : TypeId) (sz : Nat) (C : World → Reg → List Value → α → Prop) (w : World) (g B : Nat) (r : List α × List Int) (en : Ending) (w' : World) : Prop :=
  ∃ v, en = .returned v ∧ OwnL w' w.heap.size e (fun b => w.heap.size ≤ b) sz C v r.1 ∧ StreamAt w' g B r.2 ∧ w.grownBy w' (some g)
theorem set_far {w : World} {a p : Addr} {u x : Value} (h : a ≠ p) (hc : w.cell? a = some x) : (w.setCell p u).cell? a = some x := by
  rw [World.cell?_setCell_other w p a u (fun e => h e.symm)]; exact hc
theorem set_here {w : World} {a : Addr} {x : Value} (hc : w.cell? a = some x) (u : Value) : (w.setCell a u).cell? a = some u   := World.cell?_setCell_same _ _ _ hc
theorem frozen_set (w : World) (p a : Addr) (u : Value) : (w.setCell p u).frozen? a = w.frozen? a := by simp
theorem hav {P Q : Prop} (h : P) (k : P → Q) : Q := k h
theorem Blk.new2 (w : World) (o : Obj) (t : TypeId) (cs : Array Value) : Blk ((w.alloc o).alloc (.cells cs t)) (w.heap.size + 1) t cs := by
  have := Blk.new (w.alloc o) t cs
  simpa using this

theorem kname_at (k : Nat) (h : k < [strV [115, 112, 111, 116], strV [108, 105, 102, 101], strV [116, 101, 97, 109], strV [103, 111, 97, 108]].length) : [strV [115, 112, 111, 116], strV [108, 105, 102, 101], strV [116, 101, 97, 109], strV [103, 111, 97, 108]][k]'h = strV (kindName k) := by
  have : k = 0 ∨ k = 1 ∨ k = 2 ∨ k = 3 := by simp at h; omega
  rcases this with rfl | rfl | rfl | rfl <;> rfl
theorem fname_at (k : Nat) (h : k < [strV [120], strV [121], strV [122]].length) : [strV [120], strV [121], strV [122]][k]'h = strV (fieldName k) := by
  have : k = 0 ∨ k = 1 ∨ k = 2 := by simp at h; omega
  rcases this with rfl | rfl | rfl <;> rfl

theorem genFields_step {m t : Nat} (h : m < t) (l : List Int) : genFields m (t - m) l = ((genField m l).1 :: (genFields (m + 1) (t - (m + 1)) (genField m l).2).1, (genFields (m + 1) (t - (m + 1)) (genField m l).2).2) := by
  rw [show t - m = (t - (m + 1)) + 1 by omega]
  rfl
theorem genKinds_step {m t : Nat} (h : m < t) (l : List Int) : genKindsFrom m (t - m) l = ((genKind m l).1 :: (genKindsFrom (m + 1) (t - (m + 1)) (genKind m l).2).1, (genKindsFrom (m + 1) (t - (m + 1)) (genKind m l).2).2) := by
  rw [show t - m = (t - (m + 1)) + 1 by omega]
  rfl
/-- A list in a struct of the call's own (block k, cell 1) grows by one. -/
theorem grow_cell {α : Type} {e : TypeId} {sz : Nat} {C : World → Reg → List Value → α → Prop} (G : GoodC sz C) {S : Reg} {g B k : Nat} {wo wi W w4 : World} {v v4 : Value} {l : List α} {l' : List Int} (hgB : g < B) (hB : B ≤ wo.heap.size) (hk : wo.heap.size ≤ k) (s4 : k < wi.heap.size)
    (HG4 : wo.grownBy wi (some g)) (HGW : wi.grownBy W (some g)) (HSW : StreamAt W g B l') (hvb : ∀ b, v.ownBlock = some b → k < b) (ho4 : OwnL w4 (k + 1) e S sz C v4 l) (hg4 : W.grownBy w4 v.ownBlock) (hS : ∀ b, S b → b ≠ k) (o : Nat) (u : Value) :
    StreamAt (w4.setCell ⟨k, o, none⟩ u) g B l' ∧ wo.grownBy (w4.setCell ⟨k, o, none⟩ u) (some g) ∧ k < (w4.setCell ⟨k, o, none⟩ u).heap.size ∧ OwnL (w4.setCell ⟨k, o, none⟩ u) (k + 1) e S sz C v4 l ∧ ∀ t cs, Blk wi k t cs → Blk (w4.setCell ⟨k, o, none⟩ u) k t (cs.setIfInBounds o u) := by
  have hs1 := HG4.size
  have hs2 := HGW.size
  have hs3 := hg4.size
  have hsz : (w4.setCell ⟨k, o, none⟩ u).heap.size = w4.heap.size := by simp
  refine ⟨?_, ?_, by omega, ?_, ?_⟩
  · refine HSW.up (Below.setCell ?_ (by show B ≤ k; omega) u)
    exact (Below.refl B W).grown hg4 (by omega) fun b hb => by have := hvb b hb; omega
  · refine gb_set (gb_grown (gb_trans HG4 HGW) hg4 fun r hr => ?_) (by exact hk) u
    have := hvb r hr
    omega
  · refine ho4.keepG G (grown_set w4 k o u) ?_ ?_
    · intro b hb e
      injection e with e
      have := (ho4.block hb).1
      omega
    · intro b hb _ e
      injection e with e
      exact hS b hb e
  · intro t cs hB4
    refine Blk.set_ ?_ o u
    refine (hB4.grown HGW (fun e => by injection e with e; omega)).grown hg4 ?_
    intro e
    have := hvb k e.symm
    omega

set_option maxRecDepth 100000 in
set_option maxHeartbeats 2000000 in
theorem kinds_calls (g B : Nat) (l : List Int) (w : World) (hs : StreamAt w g B l) (hl : l.length ≤ 35184372088832) :
    Calls Try.prog 42 #[.pointer (some ⟨g, 0, none⟩)] w (GenPost 51 2 kindC w g B (genKinds l)) := by
  obtain ⟨hgB, hBw⟩ := hs.le
  have r1 := nextV_range l (n := 4) (by omega)
  obtain ⟨r1a, r1b⟩ := r1
  go_enter Try.func42, Try.ntmps42
  go_wp2_with (go_at_call 43; refine (next_calls g B l 4 _ hs (by omega) hl).mono ?_; rintro e w1 ⟨rfl, hs1, hg1⟩)
  have hn0 : Hid ((genKindsFrom 0 (1 + nextV l 4).toNat (nextL l 4)) = genKinds l) := rfl
  have hl1 : (nextL l 4).length ≤ 35184372088832 := Nat.le_trans (nextL_len _ _) hl
  generalize nextL l 4 = l1 at *
  generalize nextV l 4 = v1 at *
  go_loopw [3, 11] (fun v i wr => ∃ (n : Nat) (ks : List Kind) (lr : List Int), n ≤ (1 + v1).toNat ∧ i = .int .i64 n ∧ Hid (genKinds l = (ks ++ (genKindsFrom n ((1 + v1).toNat - n) lr).1, (genKindsFrom n ((1 + v1).toNat - n) lr).2)) ∧ ks.length = n ∧ lr.length ≤ 35184372088832 ∧ StreamAt wr g B lr ∧ w.grownBy wr (some g) ∧ OwnL wr w.heap.size 51 (fun b => w.heap.size ≤ b) 2 kindC v ks) (fun _ i _ => 5 - (intOf i).toNat)
  case atStart => exact ⟨0, [], l1, by omega, rfl, hn0.out.symm, rfl, hl1, hs1, hg1, OwnL.nil _ _ _ _ _ _⟩
  case round =>
    obtain ⟨wo, rfl⟩ : ∃ wo : World, wo = wr := ⟨_, rfl⟩
    obtain ⟨n, ks, lr, hn, rfl, HE, hks, hlr, hs2, hg2, hown⟩ := hrel
    have s2 := hg2.size
    have HS2 := Lib.hid hs2
    have HG2 := Lib.hid hg2
    have HO := Lib.hid hown
    have HKS := Lib.hid hks
    clear hs2 hg2 hown hks hn0 hs hs1 hg1
    by_cases hlt : n < (1 + v1).toNat
    · have hn4 : n < 4 := by omega
      have hnm := kname_at n
      have i0 : (0 : Int) ≤ (n : Int) := by omega
      have i1 : (n : Int) < 4 := by omega
      have r2 := nextV_range lr (n := 3) (by omega)
      obtain ⟨r2a, r2b⟩ := r2
      go_wp2_with (go_at_call 43; refine (next_calls g B lr 3 _ (HS2.out.up (by ((repeat (first | exact Below.refl _ _ | refine Below.alloc ?_ (by first | omega | (simp; omega) | simp) _ | refine Below.setCell ?_ (by first | omega | (simp; omega) | simp) _ | refine Below.drew ?_ | refine belN ?_ _))))) (by omega) hlr).mono ?_; rintro e w3 ⟨rfl, hs3, hg3⟩)
      have hl3 : (nextL lr 3).length ≤ 35184372088832 := Nat.le_trans (nextL_len _ _) hlr
      have HK : Hid (genKind n lr = (⟨kindName n, (genFields 0 (1 + nextV lr 3).toNat (nextL lr 3)).1⟩, (genFields 0 (1 + nextV lr 3).toNat (nextL lr 3)).2)) := rfl
      generalize nextL lr 3 = l3 at *
      generalize nextV lr 3 = v3 at *
      have hb3 := (Blk.new2 wo _ _ _).grown hg3 (fun e => by injection e with e; omega)
      have hg3' := gb_trans (gb_alloc (gb_alloc (World.grownBy.refl wo _) _) _) hg3
      have s3 : wo.heap.size + 2 ≤ w3.heap.size := by have := hg3.size; simpa using this
      have HS3 := Lib.hid hs3
      have HG3 := Lib.hid hg3'
      have HB3 := Lib.hid hb3
      clear hs3 hg3 hg3' hb3 hnm
      go_loopw [22] (fun i wi => ∃ (m : Nat) (fs : List Field) (lf : List Int) (v : Value), m ≤ (1 + v3).toNat ∧ i = .int .i64 m ∧ Hid (genFields 0 (1 + v3).toNat l3 = (fs ++ (genFields m ((1 + v3).toNat - m) lf).1, (genFields m ((1 + v3).toNat - m) lf).2)) ∧ fs.length = m ∧ lf.length ≤ 35184372088832 ∧ StreamAt wi g B lf ∧ wo.grownBy wi (some g) ∧ wo.heap.size + 2 ≤ wi.heap.size ∧ Blk wi (wo.heap.size + 1) 51 #[strV (kindName n), v] ∧ OwnL wi (wo.heap.size + 2) 62 (fun _ => False) 3 fieldC v fs) (fun i _ => 5 - (intOf i).toNat)
      case atStart => exact ⟨0, [], l3, _, by omega, rfl, rfl, rfl, hl3, HS3.out, HG3.out, s3, HB3.out, OwnL.nil _ _ _ _ _ _⟩
      case round =>
        obtain ⟨wi, rfl⟩ : ∃ wi : World, wi = wr := ⟨_, rfl⟩
        obtain ⟨m, fs, lf, v, hm, rfl, HF, hfs, hlf, hs4, hg4, s4, hb4, hof⟩ := hrel
        have HS4 := Lib.hid hs4
        have HG4 := Lib.hid hg4
        have HB4 := Lib.hid hb4
        have HOF := Lib.hid hof
        have HFS := Lib.hid hfs
        clear hs4 hg4 hb4 hof hfs HS3 HG3 HB3
        by_cases hltm : m < (1 + v3).toNat
        · have hm3 : m < 3 := by omega
          have hnm := fname_at m
          have j0 : (0 : Int) ≤ (m : Int) := by omega
          have j1 : (m : Int) < 3 := by omega
          have r4 := nextV_range lf (n := 9) (by omega)
          obtain ⟨r4a, r4b⟩ := r4
          go_upto_region 9 with fail
          go_cut [7] (fun p wc => ∃ q : Nat, p = .pointer (some ⟨q, 0, none⟩) ∧ wi.heap.size ≤ q ∧ q < wc.heap.size ∧ wc.cell? ⟨q, 0, none⟩ = some (strV (fieldName m)) ∧ wc.cell? ⟨q, 1, none⟩ = some (.int .i64 (1 + nextV lf 9)) ∧ wc.cell? ⟨q, 2, none⟩ = some (.int .i64 0) ∧ wc.frozen? ⟨q, 1, none⟩ = false ∧ wc.frozen? ⟨q, 2, none⟩ = false ∧ StreamAt wc g B (nextL lf 9) ∧ wi.grownBy wc (some g))
          case first =>
            have gi : g < wi.heap.size := by omega
            have e1 := older gi
            have L2 : ∀ N : Nat, N < N + 1 + 1 ∧ N < N + 2 := fun N => by omega
            go_region_with (go_at_call 43; refine (next_calls g B lf 9 _ (HS4.out.up (by ((repeat (first | exact Below.refl _ _ | refine Below.alloc ?_ (by first | omega | (simp; omega) | simp) _ | refine Below.setCell ?_ (by first | omega | (simp; omega) | simp) _ | refine Below.drew ?_ | refine belN ?_ _))))) (by omega) hlf).mono ?_; rintro e w5 ⟨rfl, hs5, hg5⟩; obtain ⟨hc5, hf5⟩ := lvlG hg5; have HG5 := Lib.hid hg5; have HS5 := Lib.hid hs5; have s5 := hg5.size; (try simp at s5); (first | (refine hav (P := wi.heap.size + 1 < w5.heap.size) ?_ ?_; omega; intro p5; have p6 := older p5; have p7 := older (b := wi.heap.size) (n := w5.heap.size) (Nat.lt_of_succ_lt p5)) | (refine hav (P := wi.heap.size < w5.heap.size) ?_ ?_; omega; intro p5; have p6 := older p5) | skip); clear hg5 hs5)
            all_goals go_wp2_with fail
            all_goals go_meet
            all_goals have wq : IntKind.i64.wrap (1 + nextV lf 9) = 1 + nextV lf 9 := IntWalk.i64_in _ (by omega)
            all_goals refine ⟨_, rfl, (by first | omega | (simp; omega) | simp), (by first | omega | (simp; omega) | simp), by go_simp, by go_simp, by go_simp, by go_simp, by go_simp, HS5.out.up (by ((repeat (first | exact Below.refl _ _ | refine Below.alloc ?_ (by first | omega | (simp; omega) | simp) _ | refine Below.setCell ?_ (by first | omega | (simp; omega) | simp) _ | refine Below.drew ?_ | refine belN ?_ _)))), by (repeat (first | exact World.grownBy.refl _ _ | refine gb_trans ?_ HG5.out | refine gb_alloc ?_ _ | refine gb_set ?_ (by first | omega | (simp; omega) | simp) _ | refine gb_drew ?_))⟩
          case rest =>
            obtain ⟨q, rfl, hq1, hq2, z0, z1, z2, y1, y2, hs6, hg6⟩ := hcut
            have r5 := nextV_range (nextL lf 9) (n := 40) (by omega)
            have r6 := nextV_range (nextL (nextL lf 9) 40) (n := 8) (by omega)
            obtain ⟨r5a, r5b⟩ := r5
            obtain ⟨r6a, r6b⟩ := r6
            have hl5 : (nextL lf 9).length ≤ 35184372088832 := Nat.le_trans (nextL_len _ _) hlf
            have hl6 : (nextL (nextL lf 9) 40).length ≤ 35184372088832 := Nat.le_trans (nextL_len _ _) hl5
            have hqg : q ≠ g := by omega
            obtain ⟨AF, cF, rfl, _⟩ := HOF.out.form
            have d1 := HB4.out.cell 1
            have d2 := HB4.out.frozen 1
            simp only [List.getElem?_toArray, List.getElem?_cons_succ, List.getElem?_cons_zero] at d1
            obtain ⟨hc6, hf6⟩ := lvlG hg6
            have HS6 := Lib.hid hs6
            have HG6 := Lib.hid hg6
            have s6 := hg6.size
            clear hs6 hg6
            have b1 : wo.heap.size + 1 < wi.heap.size ∧ wo.heap.size + 1 < wc.heap.size ∧ wo.heap.size + 1 ≠ g ∧ wo.heap.size + 1 ≠ q ∧ q ≠ wo.heap.size + 1 := by omega
            go_upto_region 11 with (go_at_call 43; refine (next_calls g B (nextL lf 9) 40 _ HS6.out (by omega) hl5).mono ?_; rintro e w7 ⟨rfl, hs7, hg7⟩; obtain ⟨hc7, hf7⟩ := lvlG hg7; have HS7 := Lib.hid hs7; have HG7 := Lib.hid hg7; have s7 := hg7.size; have p7 := older (b := q) (n := w7.heap.size) (by omega); have p8 := older (b := wo.heap.size + 1) (n := w7.heap.size) (by omega); have g70 := (hc7 q 0 hq2 hqg).trans z0; have g71 := (hc7 q 1 hq2 hqg).trans z1; have g72 := (hc7 q 2 hq2 hqg).trans z2; have k71 := (hf7 q 1 hq2 hqg).trans y1; have k72 := (hf7 q 2 hq2 hqg).trans y2; have g73 := (hc7 (wo.heap.size + 1) 1 (by omega) (by omega)).trans ((hc6 (wo.heap.size + 1) 1 (by omega) (by omega)).trans d1); have k73 := (hf7 (wo.heap.size + 1) 1 (by omega) (by omega)).trans ((hf6 (wo.heap.size + 1) 1 (by omega) (by omega)).trans d2); clear hs7 hg7 hc7 hf7)
            go_wp2_with (fail)
            refine (next_calls g B (nextL (nextL lf 9) 40) 8 _ (HS7.out.up (by ((repeat (first | exact Below.refl _ _ | refine Below.alloc ?_ (by first | omega | (simp; omega) | simp) _ | refine Below.setCell ?_ (by first | omega | (simp; omega) | simp) _ | refine Below.drew ?_ | refine belN ?_ _))))) (by omega) hl6).mono ?_
            rintro e w8 ⟨rfl, hs8, hg8⟩
            obtain ⟨hc8, hf8⟩ := lvlG hg8
            have HS8 := Lib.hid hs8
            have HG8 : Hid ((w7.setCell ⟨q, 2, none⟩ (.int .i64 (nextV (nextL lf 9) 40 - 30))).grownBy w8 (some g)) := Lib.hid hg8
            have s8 := hg8.size
            simp at s8
            have p9 := older (b := q) (n := w8.heap.size) (by omega)
            have p10 := older (b := wo.heap.size + 1) (n := w8.heap.size) (by omega)
            have g80 := (hc8 q 0 (by simp; omega) hqg).trans (set_far (by simp) g70)
            have g81 := (hc8 q 1 (by simp; omega) hqg).trans (set_far (by simp) g71)
            have g82 := (hc8 q 2 (by simp; omega) hqg).trans (set_here g72 _)
            have k81 := (hf8 q 1 (by simp; omega) hqg).trans ((frozen_set _ _ _ _).trans k71)
            have k82 := (hf8 q 2 (by simp; omega) hqg).trans ((frozen_set _ _ _ _).trans k72)
            have g83 := (hc8 (wo.heap.size + 1) 1 (by first | omega | (simp; omega) | simp) (by omega)).trans (set_far (by first | (simp; omega) | simp) g73)
            have k83 := (hf8 (wo.heap.size + 1) 1 (by first | omega | (simp; omega) | simp) (by omega)).trans ((frozen_set _ _ _ _).trans k73)
            clear hs8 hg8 hc8 hf8
            by_cases h7 : nextV (nextL (nextL lf 9) 40) 8 = 7
            · have gq : (nextV (nextL (nextL lf 9) 40) 8 == 7) = true := by simp [h7]
              have HGW : Hid (wi.grownBy ((w8.setCell ⟨q, 1, none⟩ (.int .i64 32)).setCell ⟨q, 2, none⟩ (.int .i64 (-2147483648))) (some g)) := Lib.hid (gb_set (gb_set (gb_trans (gb_set (gb_trans HG6.out HG7.out) (by show wi.heap.size ≤ q; omega) _) HG8.out) (by show wi.heap.size ≤ q; omega) _) (by show wi.heap.size ≤ q; omega) _)
              have HOW := Lib.hid (HOF.out.low good_field HGW.out (by omega) (fun _ h => h.elim))
              have HSW : Hid (StreamAt ((w8.setCell ⟨q, 1, none⟩ (.int .i64 32)).setCell ⟨q, 2, none⟩ (.int .i64 (-2147483648))) g B (nextL (nextL (nextL lf 9) 40) 8)) := Lib.hid (HS8.out.up (by ((repeat (first | exact Below.refl _ _ | refine Below.alloc ?_ (by first | omega | (simp; omega) | simp) _ | refine Below.setCell ?_ (by first | omega | (simp; omega) | simp) _ | refine Below.drew ?_ | refine belN ?_ _)))))
              have hvb : Hid (∀ b, (Value.slice AF fs.length cF).ownBlock = some b → wo.heap.size + 1 < b) := Lib.hid (fun b hb => (HOF.out.block hb).1)
              have hsW := HGW.out.size
              have hnew : Hid (genField m lf = (⟨fieldName m, 32, -2147483648⟩, nextL (nextL (nextL lf 9) 40) 8)) := by show genField m lf = _; unfold genField; rw [if_pos h7]
              go_wp2_with (at_builtin; go_loud (refine wpList_app1 tFields good_field rfl _ _ rfl ((w8.setCell ⟨q, 1, none⟩ (.int .i64 32)).setCell ⟨q, 2, none⟩ (.int .i64 (-2147483648))) (c := [strV (fieldName m), .int .i64 32, .int .i64 (-2147483648)]) (y := ⟨fieldName m, 32, -2147483648⟩) rfl (by exact congrArg (fun k => Value.slice (some ⟨k, 0, none⟩) 1 1) (show w8.heap.size = ((w8.setCell ⟨q, 1, none⟩ (.int .i64 32)).setCell ⟨q, 2, none⟩ (.int .i64 (-2147483648))).heap.size by simp)) HOW.out rfl (by have := HFS.out; omega) (by have := HFS.out; simp [maxLen]; omega) (by omega) ?_); intro v9 w9 ho9 hg9 hat9; obtain ⟨A9, k9, rfl, _⟩ := ho9.form; rw [List.length_append] at ho9; have g93 := (World.cell?_of_block (w := ((w8.setCell ⟨q, 1, none⟩ (.int .i64 32)).setCell ⟨q, 2, none⟩ (.int .i64 (-2147483648)))) (a := ⟨wo.heap.size + 1, 1, none⟩) (hg9.block (wo.heap.size + 1) (by omega) (fun e => by have := hvb.out _ e.symm; omega))).trans (set_far (by first | (simp; omega) | simp) (set_far (by first | (simp; omega) | simp) g83)); have k93 := (World.frozen?_of_block (w := ((w8.setCell ⟨q, 1, none⟩ (.int .i64 32)).setCell ⟨q, 2, none⟩ (.int .i64 (-2147483648)))) (a := ⟨wo.heap.size + 1, 1, none⟩) (hg9.block (wo.heap.size + 1) (by omega) (fun e => by have := hvb.out _ e.symm; omega))).trans ((frozen_set _ _ _ _).trans ((frozen_set _ _ _ _).trans k83)); have HO9 := Lib.hid ho9; have HG9 := Lib.hid hg9; clear ho9 hg9 hat9)
              go_roundw
              case rel =>
                obtain ⟨x1, x2, x3, x4, x5⟩ := grow_cell good_field hgB (by omega) (by omega) (by omega) HG4.out HGW.out HSW.out hvb.out HO9.out HG9.out (fun _ h => h.elim) 1 (.slice A9 (fs.length + 1) k9)
                refine ⟨m + 1, fs ++ [(⟨fieldName m, 32, -2147483648⟩ : Field)], _, _, by omega, by go_num, ?_, by simp [HFS.out], Nat.le_trans (nextL_len _ _) hl6, x1, x2, by omega, x5 _ _ HB4.out, x4⟩
                have := HF.out
                rw [genFields_step hltm, hnew.out] at this
                show genFields 0 (1 + v3).toNat l3 = _
                rw [this]
                simp
              case measure => simp [intOf]; omega
            · have gq : (nextV (nextL (nextL lf 9) 40) 8 == 7) = false := by simp [h7]
              have HGW : Hid (wi.grownBy w8 (some g)) := Lib.hid (gb_trans (gb_set (gb_trans HG6.out HG7.out) (by show wi.heap.size ≤ q; omega) _) HG8.out)
              have HOW := Lib.hid (HOF.out.low good_field HGW.out (by omega) (fun _ h => h.elim))
              have HSW : Hid (StreamAt w8 g B (nextL (nextL (nextL lf 9) 40) 8)) := Lib.hid (HS8.out.up (by ((repeat (first | exact Below.refl _ _ | refine Below.alloc ?_ (by first | omega | (simp; omega) | simp) _ | refine Below.setCell ?_ (by first | omega | (simp; omega) | simp) _ | refine Below.drew ?_ | refine belN ?_ _)))))
              have hvb : Hid (∀ b, (Value.slice AF fs.length cF).ownBlock = some b → wo.heap.size + 1 < b) := Lib.hid (fun b hb => (HOF.out.block hb).1)
              have hsW := HGW.out.size
              have hnew : Hid (genField m lf = (⟨fieldName m, 1 + nextV lf 9, nextV (nextL lf 9) 40 - 30⟩, nextL (nextL (nextL lf 9) 40) 8)) := by show genField m lf = _; unfold genField; rw [if_neg h7]
              go_wp2_with (at_builtin; go_loud (refine wpList_app1 tFields good_field rfl _ _ rfl w8 (c := [strV (fieldName m), .int .i64 (1 + nextV lf 9), .int .i64 (nextV (nextL lf 9) 40 - 30)]) (y := ⟨fieldName m, 1 + nextV lf 9, nextV (nextL lf 9) 40 - 30⟩) rfl rfl HOW.out rfl (by have := HFS.out; omega) (by have := HFS.out; simp [maxLen]; omega) (by omega) ?_); intro v9 w9 ho9 hg9 hat9; obtain ⟨A9, k9, rfl, _⟩ := ho9.form; rw [List.length_append] at ho9; have g93 := (World.cell?_of_block (w := w8) (a := ⟨wo.heap.size + 1, 1, none⟩) (hg9.block (wo.heap.size + 1) (by omega) (fun e => by have := hvb.out _ e.symm; omega))).trans g83; have k93 := (World.frozen?_of_block (w := w8) (a := ⟨wo.heap.size + 1, 1, none⟩) (hg9.block (wo.heap.size + 1) (by omega) (fun e => by have := hvb.out _ e.symm; omega))).trans k83; have HO9 := Lib.hid ho9; have HG9 := Lib.hid hg9; clear ho9 hg9 hat9)
              go_roundw
              case rel =>
                obtain ⟨x1, x2, x3, x4, x5⟩ := grow_cell good_field hgB (by omega) (by omega) (by omega) HG4.out HGW.out HSW.out hvb.out HO9.out HG9.out (fun _ h => h.elim) 1 (.slice A9 (fs.length + 1) k9)
                refine ⟨m + 1, fs ++ [(⟨fieldName m, 1 + nextV lf 9, nextV (nextL lf 9) 40 - 30⟩ : Field)], _, _, by omega, by go_num, ?_, by simp [HFS.out], Nat.le_trans (nextL_len _ _) hl6, x1, x2, by omega, x5 _ _ HB4.out, x4⟩
                have := HF.out
                rw [genFields_step hltm, hnew.out] at this
                show genFields 0 (1 + v3).toNat l3 = _
                rw [this]
                simp
              case measure => simp [intOf]; omega
        · have hmt : m = (1 + v3).toNat := by omega
          have d0 := HB4.out.cell 0
          obtain ⟨AF, cF, rfl, _⟩ := HOF.out.form
          have d1 := HB4.out.cell 1
          simp only [List.getElem?_toArray, List.getElem?_cons_succ, List.getElem?_cons_zero] at d0 d1
          have HOW := Lib.hid (HO.out.low good_kind HG4.out (by omega) (fun b hb e => by omega))
          have hu3 : Hid (∀ b, u3.ownBlock = some b → w.heap.size ≤ b ∧ b < wo.heap.size) := Lib.hid (fun b hb => HO.out.block hb)
          have hk : Hid (kindC wi (fun b => w.heap.size ≤ b ∧ b < wi.heap.size ∧ u3.ownBlock ≠ some b) [strV (kindName n), .slice AF fs.length cF] ⟨kindName n, fs⟩) :=
            Lib.hid ⟨_, rfl, HOF.out.read good_field (fun _ h => h.elim) (fun b h1 h2 => ⟨by omega, h2, fun e => by have := (hu3.out _ e).2; omega⟩)⟩
          go_wp2_with (at_builtin; go_loud (refine wpList_app1 tKinds good_kind rfl _ _ rfl wi (c := [strV (kindName n), .slice AF fs.length cF]) (y := ⟨kindName n, fs⟩) rfl rfl HOW.out hk.out (by have := HKS.out; omega) (by have := HKS.out; simp [maxLen]; omega) (by omega) ?_); intro v9 w9 ho9 hg9 hat9; have HO9 := Lib.hid ho9; have HG9 := Lib.hid hg9; clear ho9 hg9 hat9)
          go_roundw
          case rel =>
            refine ⟨n + 1, ks ++ [(⟨kindName n, fs⟩ : Kind)], lf, by omega, by go_num, ?_, by simp [HKS.out], hlf, ?_, ?_, HO9.out⟩
            · show genKinds l = _
              have h1 := HF.out
              rw [hmt, Nat.sub_self] at h1
              have h2 := HK.out
              rw [h1] at h2
              rw [HE.out, genKinds_step hlt, h2]
              simp [genFields]
            · exact HS4.out.up ((Below.refl B wi).grown HG9.out (by omega) fun b hb => by have := (hu3.out b hb).1; omega)
            · exact gb_grown (gb_trans HG2.out HG4.out) HG9.out fun r hr => (hu3.out r hr).1
          case measure => simp [intOf]; omega
    · have hnt : n = (1 + v1).toNat := by omega
      go_wp2
      go_ret
      have h1 := HE.out
      rw [hnt, Nat.sub_self] at h1
      refine ⟨_, rfl, ?_, ?_, HG2.out⟩
      · rw [h1]
        simpa [genKindsFrom] using HO.out
      · rw [h1]
        exact HS2.out
end Go.Proofs.Ytcfleoaldoebhaa

/-
  Part 5 of the texts under the law SystemAlone: the layer of abstract values, walks and plain laws. Conditions: those that each theorem names.
-/
import Derived.Test.YtkoehhpfjpdkcaaGreatSystemAloneP4
namespace Go.Proofs.YtkoehhpfjpdkcaaGreat
set_option linter.unusedVariables false
def quoF (hi lo : UInt64) : UInt64 := if hi = 0 then lo / 65536 else (div16 hi lo).1
def remF (hi lo : UInt64) : UInt64 := if hi = 0 then lo % 65536 else (div16 hi lo).2
/-- The rounded quotient with its sign. -/
def roundF (neg : Bool) (q : Int) (r : UInt64) : Int :=
  if neg = false then clampI (if (r.toNat : Int) ≥ (65536 - r).toNat then q + 1 else q) else clampI (-(if (r.toNat : Int) > (65536 - r).toNat then q + 1 else q))
def mulN (neg : Bool) (hi lo : UInt64) : Int :=
  if (hi.toNat : Int) ≥ 65536 then (if neg then -1099511627776 else 1099511627776) else
  if ((quoF hi lo).toNat : Int) > 1099511627776 then roundF neg 1099511627777 0 else roundF neg (quoF hi lo).toNat (remF hi lo)
/-- What fix.Mul returns. -/
def mulF (a b : Int) : Int :=
  mulN (if clampI b < 0 then !(decide (clampI a < 0)) else decide (clampI a < 0)) (mulHi (magU (clampI a)) (magU (clampI b))) (magU (clampI a) * magU (clampI b))
set_option maxRecDepth 10000 in
set_option maxHeartbeats 2000000 in
theorem mulDiv_ps (a b : Int) : PS Tryz.prog 97 [iA a, iA b, iA 65536] (iA (mulF a b)) := by
  have h1 := clamp_ps a
  have h2 := clamp_ps b
  have h3 := clamp_ps 65536
  rw [show clampI 65536 = 65536 from by decide] at h3
  have ra := clampI_range a
  have rb := clampI_range b
  obtain ⟨res, hres⟩ : ∃ res, mulF a b = res := ⟨_, rfl⟩
  rw [hres]
  unfold mulF at hres
  obtain ⟨a1, ha1⟩ : ∃ a1, clampI a = a1 := ⟨_, rfl⟩
  obtain ⟨b1, hb1⟩ : ∃ b1, clampI b = b1 := ⟨_, rfl⟩
  rw [ha1] at h1 ra hres
  rw [hb1] at h2 rb hres
  have h4 := mag_ps a1 ra
  have h5 := mag_ps b1 rb
  have h6 := mag_ps 65536 (by omega)
  rw [show magU 65536 = 65536 from by decide] at h6
  obtain ⟨ma, hma⟩ : ∃ ma, magU a1 = ma := ⟨_, rfl⟩
  obtain ⟨mb, hmb⟩ : ∃ mb, magU b1 = mb := ⟨_, rfl⟩
  rw [hma] at h4 hres
  rw [hmb] at h5 hres
  have h7 := mul64_ps ma mb
  obtain ⟨hi, hhi⟩ : ∃ hi, mulHi ma mb = hi := ⟨_, rfl⟩
  obtain ⟨lo, hlo⟩ : ∃ lo, ma * mb = lo := ⟨_, rfl⟩
  rw [hhi, hlo] at h7 hres
  refine Spec.of (nt := 78) (res := [.tmp 6]) Tryz.func97 rfl (by kernel_rfl) rfl rfl rfl fun Sf => ?_
  (repeat refine WF ?_); refine AWP.region ?_; (repeat (first | refine WO ?_ | refine All.i fun X => ?_ | refine AllY.i fun Y => ?_)); refine AOps.nil ?_; (repeat refine WN ?_)
  (repeat (first | (refine AOps.gN ?_; first | (refine AOps.g_callf ?_; first | refine AOps.c1 (h := (h1 ..)) (k := ?_) | refine AOps.c1 (h := (h2 ..)) (k := ?_) | refine AOps.c1 (h := (h3 ..)) (k := ?_))) | refine WK ?_ | refine All.i fun X => ?_ | refine AllY.i fun Y => ?_))
  refine AWP.cond_f rfl rfl ?_
  (repeat (first | refine WK ?_ | refine All.i fun X => ?_ | refine AllY.i fun Y => ?_))
  refine AWP.joinS (fun n : Bool => mulN n hi lo = res) (fun n => ⟨[(0, iA a1), (1, iA b1), (2, iA 65536), (7, bA n)], Sf⟩) ?_ ?_
  · by_cases hb : b1 < 0
    · rw [if_pos hb] at hres
      refine AWP.cond_t rfl (decide_eq_true hb) ?_
      (repeat (first | refine WK ?_ | refine All.i fun X => ?_ | refine AllY.i fun Y => ?_))
      exact jn (!decide (a1 < 0)) hres
    · rw [if_neg hb] at hres
      refine AWP.cond_f rfl (decide_eq_false hb) ?_
      (repeat (first | refine WK ?_ | refine All.i fun X => ?_ | refine AllY.i fun Y => ?_))
      exact jn (decide (a1 < 0)) hres
  clear hres
  intro neg hres
  (repeat (first | refine WK ?_ | refine All.i fun X => ?_ | refine AllY.i fun Y => ?_))
  refine AWP.cond_f rfl rfl ?_
  (repeat refine WF ?_); refine AWP.region ?_; (repeat (first | (refine AOps.gN ?_; first | (refine AOps.g_callf ?_; first | refine AOps.c1 (h := (h6 ..)) (k := ?_))) | refine WO ?_ | refine All.i fun X => ?_ | refine AllY.i fun Y => ?_)); refine AOps.nil ?_; (repeat refine WN ?_)
  (repeat refine WF ?_); refine AWP.region ?_; (repeat (first | (refine AOps.gN ?_; first | (refine AOps.g_callf ?_; first | refine AOps.c1 (h := (h4 ..)) (k := ?_) | refine AOps.c1 (h := (h5 ..)) (k := ?_) | refine AOps.c2 (h := (h7 ..)) (k := ?_))) | refine WO ?_ | refine All.i fun X => ?_ | refine AllY.i fun Y => ?_)); refine AOps.nil ?_; (repeat refine WN ?_)
  (repeat (first | refine WK ?_ | refine All.i fun X => ?_ | refine AllY.i fun Y => ?_))
  unfold mulN at hres
  by_cases hh : (hi.toNat : Int) ≥ 65536
  · rw [if_pos hh] at hres
    refine AWP.cond_t rfl (decide_eq_true hh) ?_
    (repeat (first | refine WK ?_ | refine All.i fun X => ?_ | refine AllY.i fun Y => ?_))
    cases neg
    · refine AWP.cond_f rfl rfl ?_
      (repeat (first | refine WK ?_ | refine All.i fun X => ?_ | refine AllY.i fun Y => ?_))
      (refine AWP.ret ?_; (repeat (first | refine inB_r ?_ | refine andThen_r ?_)); refine retQ_r ?_); refine Ends.ps ?_
      rw [← hres]; rfl
    · refine AWP.cond_t rfl rfl ?_
      (repeat (first | refine WK ?_ | refine All.i fun X => ?_ | refine AllY.i fun Y => ?_))
      (refine AWP.ret ?_; (repeat (first | refine inB_r ?_ | refine andThen_r ?_)); refine retQ_r ?_); refine Ends.ps ?_
      rw [← hres]; rfl
  rw [if_neg hh] at hres
  refine AWP.cond_f rfl (decide_eq_false hh) ?_
  have h8 := div64_ps hi lo (by omega)
  rw [show (if hi = 0 then lo / 65536 else (div16 hi lo).1) = quoF hi lo from rfl, show (if hi = 0 then lo % 65536 else (div16 hi lo).2) = remF hi lo from rfl] at h8
  obtain ⟨q, hq⟩ : ∃ q, quoF hi lo = q := ⟨_, rfl⟩
  obtain ⟨r, hr⟩ : ∃ r, remF hi lo = r := ⟨_, rfl⟩
  rw [hq, hr] at h8 hres
  (repeat refine WF ?_); refine AWP.region ?_; (repeat (first | (refine AOps.gN ?_; first | (refine AOps.g_callf ?_; first | refine AOps.c3 (h := (h8 ..)) (k := ?_))) | refine WO ?_ | refine All.i fun X => ?_ | refine AllY.i fun Y => ?_)); refine AOps.nil ?_; (repeat refine WN ?_)
  (repeat (first | refine WK ?_ | refine All.i fun X => ?_ | refine AllY.i fun Y => ?_))
  refine AWP.joinS (fun b : UInt64 × UInt64 => b.1.toNat ≤ 1099511627777 ∧ roundF neg b.1.toNat b.2 = res) (fun b => ⟨[(7, bA neg), (8, uA 65536), (11, uA b.1), (12, uA b.2)], Sf⟩) ?_ ?_
  · by_cases hb : (q.toNat : Int) > 1099511627776
    · rw [if_pos hb] at hres
      refine AWP.cond_t rfl (decide_eq_true hb) ?_
      (repeat (first | refine WK ?_ | refine All.i fun X => ?_ | refine AllY.i fun Y => ?_))
      exact jn (1099511627777, 0) ⟨by decide, hres⟩
    · rw [if_neg hb] at hres
      refine AWP.cond_f rfl (decide_eq_false hb) ?_
      (repeat (first | refine WK ?_ | refine All.i fun X => ?_ | refine AllY.i fun Y => ?_))
      exact jn (q, r) ⟨by dsimp only; omega, hres⟩
  clear hres hq hr h8
  rintro ⟨q, r⟩ ⟨hq, hres⟩
  dsimp only at hq hres ⊢
  (repeat (first | (refine AOps.gN ?_; first | refine AOps.p (W.ofUN .u64 (by omega) (by kernel_rfl) (by kernel_rfl) rfl) rfl ?_) | refine WK ?_ | refine All.i fun X => ?_ | refine AllY.i fun Y => ?_))
  unfold roundF at hres
  cases neg
  · rw [if_pos rfl] at hres
    refine AWP.cond_t rfl rfl ?_
    (repeat (first | (refine AOps.gN ?_; first | refine AOps.p (W.subU rfl rfl) rfl ?_) | refine WK ?_ | refine All.i fun X => ?_ | refine AllY.i fun Y => ?_))
    by_cases hc : (r.toNat : Int) ≥ (65536 - r).toNat
    · rw [if_pos hc] at hres
      have hc1 := clamp_ps ((q.toNat : Int) + 1)
      rw [hres] at hc1
      refine AWP.cond_t rfl (decide_eq_true hc) ?_
      (repeat (first | (refine AOps.gN ?_; first | (refine AOps.g_callf ?_; first | refine AOps.c1 (h := (hc1 ..)) (k := ?_))) | refine WK ?_ | refine All.i fun X => ?_ | refine AllY.i fun Y => ?_))
      (refine AWP.ret ?_; (repeat (first | refine inB_r ?_ | refine andThen_r ?_)); refine retQ_r ?_); refine Ends.ps ?_
      rfl
    · rw [if_neg hc] at hres
      have hc1 := clamp_ps (q.toNat : Int)
      rw [hres] at hc1
      refine AWP.cond_f rfl (decide_eq_false hc) ?_
      (repeat (first | (refine AOps.gN ?_; first | (refine AOps.g_callf ?_; first | refine AOps.c1 (h := (hc1 ..)) (k := ?_))) | refine WK ?_ | refine All.i fun X => ?_ | refine AllY.i fun Y => ?_))
      (refine AWP.ret ?_; (repeat (first | refine inB_r ?_ | refine andThen_r ?_)); refine retQ_r ?_); refine Ends.ps ?_
      rfl
  · rw [if_neg (by decide)] at hres
    refine AWP.cond_f rfl rfl ?_
    (repeat (first | (refine AOps.gN ?_; first | refine AOps.p (W.subU rfl rfl) rfl ?_) | refine WK ?_ | refine All.i fun X => ?_ | refine AllY.i fun Y => ?_))
    by_cases hc : (r.toNat : Int) > (65536 - r).toNat
    · rw [if_pos hc] at hres
      have hc1 := clamp_ps (-((q.toNat : Int) + 1))
      rw [hres] at hc1
      refine AWP.cond_t rfl (decide_eq_true hc) ?_
      (repeat (first | (refine AOps.gN ?_; first | (refine AOps.g_callf ?_; first | refine AOps.c1 (h := (hc1 ..)) (k := ?_)) | refine AOps.p (W.negE (-((q.toNat : Int) + 1)) rfl (by omega) rfl) rfl ?_) | refine WK ?_ | refine All.i fun X => ?_ | refine AllY.i fun Y => ?_))
      (refine AWP.ret ?_; (repeat (first | refine inB_r ?_ | refine andThen_r ?_)); refine retQ_r ?_); refine Ends.ps ?_
      rfl
    · rw [if_neg hc] at hres
      have hc1 := clamp_ps (-(q.toNat : Int))
      rw [hres] at hc1
      refine AWP.cond_f rfl (decide_eq_false hc) ?_
      (repeat (first | (refine AOps.gN ?_; first | (refine AOps.g_callf ?_; first | refine AOps.c1 (h := (hc1 ..)) (k := ?_)) | refine AOps.p (W.negE (-(q.toNat : Int)) rfl (by omega) rfl) rfl ?_) | refine WK ?_ | refine All.i fun X => ?_ | refine AllY.i fun Y => ?_))
      (refine AWP.ret ?_; (repeat (first | refine inB_r ?_ | refine andThen_r ?_)); refine retQ_r ?_); refine Ends.ps ?_
      rfl
theorem mul_ps (a b : Int) : PS Tryz.prog 91 [iA a, iA b] (iA (mulF a b)) := by
  have h := mulDiv_ps a b
  refine Spec.of (nt := 8) (res := [.tmp 4]) Tryz.func91 rfl (by kernel_rfl) rfl rfl rfl fun Sf => ?_
  (repeat (first | (refine AOps.gN ?_; first | (refine AOps.g_callf ?_; first | refine AOps.c3 (h := (h ..)) (k := ?_))) | refine WK ?_ | refine All.i fun X => ?_ | refine AllY.i fun Y => ?_))
  (refine AWP.ret ?_; (repeat (first | refine inB_r ?_ | refine andThen_r ?_)); refine retQ_r ?_); refine Ends.ps ?_
  rfl
end Go.Proofs.YtkoehhpfjpdkcaaGreat

namespace Go.Proofs.YtkoehhpfjpdkcaaGreat
set_option linter.unusedVariables false
def limU (n : UInt64) : UInt64 := 18446744073709551615 - (18446744073709551615 % n + 1) % n
/-- What rnd.Below computes with at most so many numbers. -/
def belowGo (n : UInt64) : Nat → UInt64 × UInt64 → UInt64 × (UInt64 × UInt64)
  | 0, r => (0, r)
  | k + 1, r => if mixU (nextU r).1 ≤ limU n then (mixU (nextU r).1 % n, nextU r) else belowGo n k (nextU r)
def belowU (r : UInt64 × UInt64) (n : Nat) : UInt64 × (UInt64 × UInt64) := belowGo (UInt64.ofNat n) 18446744073709551616 r
theorem mixU_zero : mixU 0 = 0 := by decide
theorem belowGo_gamma (n : UInt64) : ∀ (k : Nat) (r : UInt64 × UInt64), (belowGo n k r).2.2 = r.2
  | 0, r => rfl
  | k + 1, r => by
    rw [belowGo]
    split
    · rfl
    · exact belowGo_gamma n k (nextU r)
theorem belowGo_lt (n : UInt64) (hn : 0 < n.toNat) : ∀ (k : Nat) (r : UInt64 × UInt64), (belowGo n k r).1.toNat < n.toNat
  | 0, r => by simpa [belowGo] using hn
  | k + 1, r => by
    rw [belowGo]
    split
    · rw [UInt64.toNat_mod]; exact Nat.mod_lt _ hn
    · exact belowGo_lt n hn k (nextU r)
theorem belowR_ps (r : UInt64 × UInt64) (n : Nat) (h1 : 1 ≤ n) (h2 : n ≤ 4611686018427387904) (hg : r.2.toNat % 2 = 1) : PS Tryz.prog 92 [rndA r, iA n] (.tup [iA (belowU r n).1.toNat, rndA (belowU r n).2, iA 0]) := by
  obtain ⟨m, hm⟩ : ∃ m, UInt64.ofNat n = m := ⟨_, rfl⟩
  have hmn : m.toNat = n := by rw [← hm, UInt64.toNat_ofNat']; omega
  obtain ⟨k0, hk1, hk2, hk3⟩ := odd_zero r.1 r.2 hg
  have hodd : decide (((r.2 % 2).toNat : Int) = 0) = false := decide_eq_false (by
    rw [UInt64.toNat_mod]
    show ¬ ((r.2.toNat % 2 : Nat) : Int) = 0
    omega)
  obtain ⟨res, hres⟩ : ∃ res, belowU r n = res := ⟨_, rfl⟩
  rw [hres]
  have hlt : res.1.toNat < m.toNat := by rw [← hres]; unfold belowU; rw [hm]; exact belowGo_lt m (by omega) _ _
  unfold belowU at hres
  rw [hm] at hres
  refine Spec.of (nt := 40) (res := [.tmp 4, .cell 5 70, .tmp 6]) Tryz.func92 rfl (by kernel_rfl) rfl rfl rfl fun Sf => ?_
  (repeat refine WF ?_)
  refine AWP.region ?_
  refine AOps.goF fun B => ?_
  (repeat (first | refine WO ?_ | refine All.i fun R => ?_ | refine AllY.i fun Y => ?_))
  (repeat first | refine AOps.nil ?_ | refine WF ?_)
  have g1 : decide ((n : Int) < 1) = false := decide_eq_false (by omega)
  (repeat (first | (refine AOps.gN ?_; first | refine AOps.go (h := W.remU (b := 2) (by decide) rfl rfl) (k := ?_)) | refine WK ?_ | refine All.i fun X => ?_ | refine AllY.i fun Y => ?_))
  refine AWP.cond_f rfl hodd ?_
  (repeat refine WF ?_); refine AWP.region ?_; (repeat (first | (refine AOps.gN ?_; first | refine AOps.p (W.toUN .i64 n rfl (by omega) (by kernel_rfl) (by kernel_rfl) rfl) rfl ?_) | refine WO ?_ | refine All.i fun X => ?_ | refine AllY.i fun Y => ?_)); refine AOps.nil ?_; (repeat refine WN ?_)
  rw [hm]
  (repeat refine WF ?_); refine AWP.region ?_; (repeat (first | (refine AOps.gN ?_; first | refine AOps.go (h := W.remU (a := 18446744073709551615) (b := m) (by omega) rfl rfl) (k := ?_) | refine AOps.go (h := W.remU (b := m) (by omega) rfl rfl) (k := ?_) | refine AOps.p (W.addU (b := 1) rfl rfl) rfl ?_) | refine WO ?_ | refine All.i fun X => ?_ | refine AllY.i fun Y => ?_)); refine AOps.nil ?_; (repeat refine WN ?_)
  (repeat first | refine AOps.nil ?_ | refine WF ?_)
  refine AWP.lp3 (fun (r' : UInt64 × UInt64) (k K : Nat) => ⟨[(2, .ptr B 0 0), (5, .ptr R 0 0), (7, uA m), (8, uA ((18446744073709551615 % m + 1) % m))], (R, .row 70 2 [rndA (0, 0)]) :: (B, .row 70 2 [rndA r']) :: Sf⟩) (fun r' k K => 1 ≤ k ∧ k ≤ K ∧ r'.2 = r.2 ∧ (r'.1.toNat + k * r'.2.toNat) % 18446744073709551616 = 0 ∧ belowGo m K r' = res) (fun _ _ K => K) r k0 18446744073709551616 ⟨hk1, hk2, rfl, hk3, hres⟩ ?_
  rintro r' k K ⟨hk1, hk2, hr2, hk3, hres⟩
  have hnx := rndNext_ps r'
  obtain ⟨K', rfl⟩ : ∃ K', K = K' + 1 := ⟨K - 1, by omega⟩
  rw [belowGo] at hres
  (repeat refine WF ?_)
  (repeat refine WF ?_); refine AWP.region ?_; (repeat (first | refine WO ?_ | refine All.i fun X => ?_ | refine AllY.i fun Y => ?_)); refine AOps.nil ?_; (repeat refine WN ?_)
  (repeat refine WF ?_); refine AWP.region ?_; (repeat (first | (refine AOps.gN ?_; first | (refine AOps.g_callf ?_; first | refine AOps.c1 (h := (hnx ..)) (k := ?_))) | refine WO ?_ | refine All.i fun X => ?_ | refine AllY.i fun Y => ?_)); refine AOps.nil ?_; (repeat refine WN ?_)
  (repeat refine WF ?_); refine AWP.region ?_; (repeat (first | (refine AOps.gN ?_; first | refine AOps.p (W.subU (a := 18446744073709551615) rfl rfl) rfl ?_) | refine WO ?_ | refine All.i fun X => ?_ | refine AllY.i fun Y => ?_)); refine AOps.nil ?_; (repeat refine WN ?_)
  have hst : ((nextU r').1.toNat + (k - 1) * (nextU r').2.toNat) % 18446744073709551616 = 0 := by
    have e : (nextU r').1.toNat = (r'.1.toNat + r'.2.toNat) % 18446744073709551616 := UInt64.toNat_add ..
    rw [e, show (nextU r').2 = r'.2 from rfl]
    obtain ⟨j, rfl⟩ : ∃ j, k = j + 1 := ⟨k - 1, by omega⟩
    rw [Nat.add_mul, Nat.one_mul] at hk3
    rw [Nat.add_sub_cancel]
    generalize j * r'.2.toNat = u at hk3 ⊢
    omega
  refine AWP.cond rfl (fun hc => ?_) (fun hc => ?_)
  · have hc : mixU (nextU r').1 ≤ limU m := by
      rw [UInt64.le_iff_toNat_le]
      have := of_decide_eq_true hc
      exact Int.ofNat_le.1 this
    rw [if_pos hc] at hres
    have hx : (mixU (nextU r').1 % m).toNat < 9223372036854775808 := by rw [show mixU (nextU r').1 % m = res.1 from by rw [← hres]]; omega
    (repeat refine WF ?_); refine AWP.region_run (by kernel_rfl) (by kernel_rfl) ?_; (repeat (first | (refine RGo.gN ?_; first | refine RGo.go (h := W.remU (b := m) (by omega) rfl rfl) (k := ?_) | refine RGo.go (h := W.ofUN .u64 hx (by kernel_rfl) (by kernel_rfl) rfl) (k := ?_)) | (refine RGo.gQ ?_; first | refine RGo.go (h := W.remU (b := m) (by omega) rfl rfl) (k := ?_) | refine RGo.go (h := W.ofUN .u64 hx (by kernel_rfl) (by kernel_rfl) rfl) (k := ?_)) | refine RK ?_ | refine RGo.nil (by kernel_rfl) ?_))
    (refine AWP.ret ?_; (repeat (first | refine inB_r ?_ | refine andThen_r ?_)); refine retQ_r ?_)
    subst hres
    exact Ends.cv [iA (mixU (nextU r').1 % m).toNat, rndA (nextU r'), iA 0] [iA (mixU (nextU r').1 % m).toNat, rndA (nextU r'), iA 0] (.cons (.cell .same) (.cons (.agg (.cons .same (.cons .same .nil))) (.cons (.cell .same) .nil)))
  · have hc : ¬ mixU (nextU r').1 ≤ limU m := by
      rw [UInt64.le_iff_toNat_le]
      have := of_decide_eq_false hc
      exact fun h => this (Int.ofNat_le.2 h)
    rw [if_neg hc] at hres
    have hk : k ≠ 1 := by
      intro e
      subst e
      apply hc
      have h0 : (nextU r').1 = 0 := by
        apply UInt64.toNat_inj.1
        have := (nextU r').1.toNat_lt
        simp at hst
        show (nextU r').1.toNat = 0
        omega
      rw [h0, mixU_zero, UInt64.le_iff_toNat_le]
      exact Nat.zero_le _
    (repeat (first | refine WK ?_ | refine All.i fun X => ?_ | refine AllY.i fun Y => ?_))
    refine lp_next3 (nextU r') (k - 1) K' ⟨by omega, by omega, hr2, hst, hres⟩
end Go.Proofs.YtkoehhpfjpdkcaaGreat

namespace Go.Proofs.YtkoehhpfjpdkcaaGreat
set_option linter.unusedVariables false
def argA (a : Arg) : AV := .agg [bA a.has, iA a.n, iA a.ref.kind, iA a.ref.field]
def opA (o : Op) : AV := .agg [iA o.act, iA o.to.kind, iA o.to.field, bA o.a.has, iA o.a.n, iA o.a.ref.kind, iA o.a.ref.field, bA o.b.has, iA o.b.n, iA o.b.ref.kind, iA o.b.ref.field]
abbrev opsA (o : Bool) (l : List Op) : AV := .lst o 82 11 (l.map opA)
def sysA (o : Bool) (s : Sys) : AV := .agg [sA s.name, intsA o s.wth, intsA o s.wout, intsA o s.reads, intsA o s.writes, opsA o s.ops, compsA o false s.spawn]
instance {a : Arg} : Frz (argA a) (argA a) := ⟨rfl⟩
instance {o : Op} : Frz (opA o) (opA o) := ⟨rfl⟩
instance {o : Bool} {s : Sys} : Frz (sysA o s) (sysA false s) := ⟨by unfold sysA; exact Frz.h⟩
end Go.Proofs.YtkoehhpfjpdkcaaGreat

namespace Go.Proofs.YtkoehhpfjpdkcaaGreat
set_option linter.unusedVariables false
theorem indexI_ps (l : List Int) (x : Int) (hl : l.length ≤ 4611686018427387904) : PS Tryz.prog 76 [intsA false l, iA x] (iA (idxF l fun y => decide (x = y))) := by
  refine Spec.of (nt := 19) (res := [.tmp 4]) Tryz.func76 rfl (by kernel_rfl) rfl rfl rfl fun Sf => ?_
  (repeat (first | refine WK ?_ | refine All.i fun X => ?_ | refine AllY.i fun Y => ?_))
  refine AWP.lp (fun i : Nat => ⟨[(0, intsA false l), (1, iA x), (7, iA (l.map iA).length), (8, iA i)], Sf⟩) (fun i => i ≤ l.length ∧ ∀ j (h : j < l.length), j < i → (decide (x = l[j])) = false) (fun i => l.length - i) 0 ⟨Nat.zero_le _, fun j h hj => absurd hj (by omega)⟩ ?_
  rintro i ⟨hi, he⟩
  (repeat (first | refine WK ?_ | refine All.i fun X => ?_ | refine AllY.i fun Y => ?_))
  refine AWP.cond rfl (fun hc => ?_) (fun hc => ?_)
  · have h : i < l.length := by simpa using hc
    (repeat (first | refine WK ?_ | refine All.i fun X => ?_ | refine AllY.i fun Y => ?_))
    refine AWP.cond rfl (fun hd => ?_) (fun hd => ?_)
    · (repeat (first | refine WK ?_ | refine All.i fun X => ?_ | refine AllY.i fun Y => ?_))
      (refine AWP.ret ?_; (repeat (first | refine inB_r ?_ | refine andThen_r ?_)); refine retQ_r ?_); refine Ends.ps ?_
      rw [idxF_some h hd fun j hj => he j (by omega) hj]
    · (repeat (first | refine WK ?_ | refine All.i fun X => ?_ | refine AllY.i fun Y => ?_))
      refine lp_next (i + 1) ⟨h, fun j h1 h2 => ?_⟩
      by_cases e : j = i
      · subst e; exact hd
      · exact he j h1 (by omega)
  · have h : ¬ i < l.length := by simpa using hc
    (repeat (first | refine WK ?_ | refine All.i fun X => ?_ | refine AllY.i fun Y => ?_))
    (refine AWP.ret ?_; (repeat (first | refine inB_r ?_ | refine andThen_r ?_)); refine retQ_r ?_); refine Ends.ps ?_
    rw [idxF_none fun j hj => he j hj (by omega)]
theorem containsI_ps (l : List Int) (x : Int) (hl : l.length ≤ 4611686018427387904) : PS Tryz.prog 47 [intsA false l, iA x] (bA (l.contains x)) := by
  refine Spec.of (nt := 9) (res := [.tmp 4]) Tryz.func47 rfl (by kernel_rfl) rfl rfl rfl fun Sf => ?_
  (repeat (first | (refine AOps.gN ?_; first | (refine AOps.g_callf ?_; first | refine AOps.c2 (h := (indexI_ps l x hl)) (k := ?_))) | refine WK ?_ | refine All.i fun X => ?_ | refine AllY.i fun Y => ?_))
  (refine AWP.ret ?_; (repeat (first | refine inB_r ?_ | refine andThen_r ?_)); refine retQ_r ?_); refine Ends.ps ?_
  have h2 : decide ((0 : Int) ≤ idxF l fun y => decide (x = y)) = l.contains x := by
    rw [idxF_any, List.contains_eq_any_beq]
    congr 1
  rw [← h2]
end Go.Proofs.YtkoehhpfjpdkcaaGreat

namespace Go.Proofs.YtkoehhpfjpdkcaaGreat
set_option linter.unusedVariables false
def setsB (d : Int) : Bool := decide (d ≥ 0) && decide (d ≤ 7)
theorem sets_ps (d : Int) : PS Tryz.prog 59 [iA d] (bA (setsB d)) := by
  refine Spec.of (nt := 9) (res := [.tmp 2]) Tryz.func59 rfl (by kernel_rfl) rfl rfl rfl fun Sf => ?_
  (repeat (first | refine WK ?_ | refine All.i fun X => ?_ | refine AllY.i fun Y => ?_))
  (refine AWP.ret ?_; (repeat (first | refine inB_r ?_ | refine andThen_r ?_)); refine retQ_r ?_); refine Ends.ps ?_
  rfl
theorem two_ps (d : Int) : PS Tryz.prog 85 [iA d] (bA (twoOp d)) := by
  refine Spec.of (nt := 13) (res := [.tmp 2]) Tryz.func85 rfl (by kernel_rfl) rfl rfl rfl fun Sf => ?_
  (repeat (first | refine WK ?_ | refine All.i fun X => ?_ | refine AllY.i fun Y => ?_))
  (refine AWP.ret ?_; (repeat (first | refine inB_r ?_ | refine andThen_r ?_)); refine retQ_r ?_); refine Ends.ps ?_
  rfl
def refA (r : Ref) : AV := .agg [iA r.kind, iA r.field]
theorem isField_ps (ks : List Kind) (r : Ref) (h : RefOK ks r) : PS Tryz.prog 84 [kindsA false false ks, refA r] (bA true) := by
  obtain ⟨h1, h2, h3, h4⟩ := h
  obtain ⟨rk, rf⟩ := r
  dsimp only at h1 h2 h3 h4
  obtain ⟨i, hi⟩ : ∃ i : Nat, rk = i := ⟨rk.toNat, by omega⟩
  subst hi
  have hil : i < ks.length := by omega
  unfold flds at h4
  rw [Int.toNat_natCast, List.getElem?_eq_getElem hil] at h4
  dsimp only at h4
  obtain ⟨⟨kn, fs⟩, hk⟩ : ∃ k, ks[i] = k := ⟨_, rfl⟩
  rw [hk] at h4
  have hkm : (ks.map (kindA false)).length = ks.length := List.length_map _
  have hat : (ks.map (kindA false))[i]? = some (kindA false ⟨kn, fs⟩) := by rw [List.getElem?_map, List.getElem?_eq_getElem hil, hk]; rfl
  have g1 : decide (((i : Nat) : Int) ≥ 0) = true := decide_eq_true (by omega)
  have g2 : decide (((i : Nat) : Int) < (ks.map (kindA false)).length) = true := decide_eq_true (by omega)
  have g3 : decide (rf ≥ 0) = true := decide_eq_true (by omega)
  have g4 : decide (rf < (fs.map fieldA).length) = true := decide_eq_true (by rw [List.length_map]; exact h4)
  refine Spec.of (nt := 32) (res := [.tmp 4]) Tryz.func84 rfl (by kernel_rfl) rfl rfl rfl fun Sf => ?_
  (repeat refine WF ?_); refine AWP.region ?_; (repeat (first | (refine AOps.gN ?_; first | (refine AOps.g_box ?_; refine AOps.goB ?_)) | refine WO ?_ | refine All.i fun X => ?_ | refine AllY.i fun Y => ?_)); refine AOps.nil ?_; (repeat refine WN ?_)
  (repeat refine WF ?_); refine AWP.region_run (by kernel_rfl) (by kernel_rfl) ?_; (repeat (first | refine RK ?_ | refine RGo.nil (by kernel_rfl) ?_))
  (repeat first | refine AOps.nil ?_ | refine WF ?_)
  (refine AWP.ret ?_; (repeat (first | refine inB_r ?_ | refine andThen_r ?_)); refine retQ_r ?_); refine Ends.ps ?_
  rw [g4]
/-- A list of kinds in order. -/
theorem set_ps (ks : List Kind) (l : List Int) (ho : l.Pairwise (· < ·)) (hr : ∀ x ∈ l, 0 ≤ x ∧ x < ks.length) (hl : l.length ≤ 1099511627776) : PS Tryz.prog 44 [kindsA false false ks, intsA false l] (iA 0) := by
  have hlm : (l.map iA).length = l.length := List.length_map _
  have hkm : (ks.map (kindA false)).length = ks.length := List.length_map _
  refine Spec.of (nt := 34) (res := [.tmp 4]) Tryz.func44 rfl (by kernel_rfl) rfl rfl rfl fun Sf => ?_
  (repeat (first | refine WK ?_ | refine All.i fun X => ?_ | refine AllY.i fun Y => ?_))
  refine AWP.lp (fun i : Nat => ⟨[(0, kindsA false false ks), (1, intsA false l), (7, intsA false l), (8, iA (l.map iA).length), (9, iA i)], Sf⟩) (fun i => i ≤ l.length) (fun i => l.length - i) 0 (Nat.zero_le _) ?_
  rintro i hi
  (repeat (first | refine WK ?_ | refine All.i fun X => ?_ | refine AllY.i fun Y => ?_))
  refine AWP.cond rfl (fun hc => ?_) (fun hc => ?_)
  · have h : i < l.length := by rw [decide_eq_true_eq, hlm] at hc; omega
    have hx := hr _ (List.getElem_mem h)
    obtain ⟨x, hxe⟩ : ∃ x, l[i] = x := ⟨_, rfl⟩
    rw [hxe] at hx
    have hat : (l.map iA)[i]? = some (iA x) := by rw [List.getElem?_map, List.getElem?_eq_getElem h, hxe]; rfl
    have g1 : decide (x < 0) = false := decide_eq_false (by omega)
    have g2 : decide (x ≥ (ks.map (kindA false)).length) = false := decide_eq_false (by omega)
    (repeat (first | refine WK ?_ | refine All.i fun X => ?_ | refine AllY.i fun Y => ?_))
    refine AWP.cond_f rfl g2 ?_
    by_cases h0 : i = 0
    · subst h0
      have g3 : decide (((0 : Nat) : Int) > 0) = false := by decide
      (repeat (first | refine WK ?_ | refine All.i fun X => ?_ | refine AllY.i fun Y => ?_))
      refine AWP.cond_f rfl rfl ?_
      (repeat (first | refine WK ?_ | refine All.i fun X => ?_ | refine AllY.i fun Y => ?_))
      refine lp_next 1 h
    · have g3 : decide (((i : Nat) : Int) > 0) = true := decide_eq_true (by omega)
      have hlt : l[i - 1] < x := by rw [← hxe]; exact List.pairwise_iff_getElem.1 ho (i - 1) i (by omega) h (by omega)
      have hat2 : (l.map iA)[i - 1]? = some (iA l[i - 1]) := by rw [List.getElem?_map, List.getElem?_eq_getElem (by omega)]; rfl
      have g4 : decide (l[i - 1] ≥ x) = false := decide_eq_false (by omega)
      (repeat (first | (refine AOps.gN ?_; first | refine AOps.go (h := W.subE ((i - 1 : Nat) : Int) (by omega) (by omega) rfl rfl) (k := ?_)) | refine WK ?_ | refine All.i fun X => ?_ | refine AllY.i fun Y => ?_))
      refine AWP.cond_f rfl g4 ?_
      (repeat (first | refine WK ?_ | refine All.i fun X => ?_ | refine AllY.i fun Y => ?_))
      refine lp_next (i + 1) h
  · (repeat (first | refine WK ?_ | refine All.i fun X => ?_ | refine AllY.i fun Y => ?_))
    (refine AWP.ret ?_; (repeat (first | refine inB_r ?_ | refine andThen_r ?_)); refine retQ_r ?_); refine Ends.ps ?_
    rfl
theorem sysCheck1_ps (s : Sys) (x : Int) (hl : s.wout.length ≤ 4611686018427387904) : PS Tryz.prog 46 [iA x, .fp (sysA false s).cells] (bA (s.wout.contains x)) := by
  have h := containsI_ps s.wout x hl
  refine Spec.of (nt := 8) (res := [.tmp 3]) Tryz.func46 rfl (by kernel_rfl) rfl rfl rfl fun Sf => ?_
  (repeat (first | (refine AOps.gN ?_; first | (refine AOps.g_callf ?_; first | refine AOps.c2 (h := (h ..)) (k := ?_))) | refine WK ?_ | refine All.i fun X => ?_ | refine AllY.i fun Y => ?_))
  (refine AWP.ret ?_; (repeat (first | refine inB_r ?_ | refine andThen_r ?_)); refine retQ_r ?_); refine Ends.ps ?_
  rfl
theorem sysCheck2_ps (s : Sys) (x : Int) (hl : s.wth.length ≤ 4611686018427387904) : PS Tryz.prog 49 [iA x, .fp (sysA false s).cells] (bA (!s.wth.contains x)) := by
  have h := containsI_ps s.wth x hl
  refine Spec.of (nt := 9) (res := [.tmp 3]) Tryz.func49 rfl (by kernel_rfl) rfl rfl rfl fun Sf => ?_
  (repeat (first | (refine AOps.gN ?_; first | (refine AOps.g_callf ?_; first | refine AOps.c2 (h := (h ..)) (k := ?_))) | refine WK ?_ | refine All.i fun X => ?_ | refine AllY.i fun Y => ?_))
  (refine AWP.ret ?_; (repeat (first | refine inB_r ?_ | refine andThen_r ?_)); refine retQ_r ?_); refine Ends.ps ?_
  rfl
end Go.Proofs.YtkoehhpfjpdkcaaGreat

namespace Go.Proofs.YtkoehhpfjpdkcaaGreat
set_option linter.unusedVariables false
structure Cmd where
  act : Int
  ent : Ent
  kind : Int
  comps : List Comp
def cmdA (c : Cmd) : AV := .agg [iA c.act, iA c.ent.n, iA c.ent.gen, iA c.kind, compsA false false c.comps]
instance {c : Cmd} : Frz (cmdA c) (cmdA c) := ⟨by unfold cmdA; exact Frz.h⟩
/-- The values of the component of a kind. -/
def valsOf (cs : List Comp) (k : Int) : List Int := match compOf cs k with
  | some c => c.vals
  | none => []
/-- What an argument stands for. -/
def argV (cs : List Comp) (a : Arg) : Int := if a.has then (valsOf cs a.ref.kind).getD a.ref.field.toNat 0 else a.n
/-- What an operation that sets a field computes. -/
def valueV (act a b : Int) (r : UInt64 × UInt64) : Int × (UInt64 × UInt64) :=
  if act = 1 then (a + b, r) else if act = 2 then (a - b, r) else if act = 3 then (mulF a b, r) else
  if act = 4 then (if b < a then b else a, r) else if act = 5 then (if a < b then b else a, r) else if act = 6 then (if a < b then 1 else 0, r) else
  if act = 7 then (if a < 1 then (0, r) else (((belowU r a.toNat).1.toNat : Int), (belowU r a.toNat).2)) else (a, r)
/-- One value of the component of a kind is set. -/
def setV (cs : List Comp) (k : Int) (f : Nat) (v : Int) : List Comp := match compOf cs k with
  | some c => cs.set (compAt cs k) ⟨c.kind, c.vals.set f v⟩
  | none => cs
/-- What is kept while a system runs for an entity. -/
structure Rn where
  comps : List Comp
  r : UInt64 × UInt64
  cmds : List Cmd
  evs : List Evt
def fieldOf (ks : List Kind) (r : Ref) : Field := match ks[r.kind.toNat]? with
  | some k => k.fields.getD r.field.toNat ⟨[], 0, 0⟩
  | none => ⟨[], 0, 0⟩
def defOf (ks : List Kind) (k : Int) : List Int := match ks[k.toNat]? with
  | some x => (fitOf x (List.replicate x.fields.length 0)).1
  | none => []
/-- What an operation does. -/
def doM (ks : List Kind) (s : Sys) (index : Int) (e : Ent) (o : Op) (st : Rn) : Rn :=
  if setsB o.act = true then
    ⟨setV st.comps o.to.kind o.to.field.toNat (nearOf (fieldOf ks o.to) (valueV o.act (argV st.comps o.a) (argV st.comps o.b) st.r).1), (valueV o.act (argV st.comps o.a) (argV st.comps o.b) st.r).2, st.cmds, st.evs⟩
  else if argV st.comps o.a = 0 then st
  else if o.act = 12 then ⟨st.comps, st.r, st.cmds, st.evs ++ [⟨index, e, argV st.comps o.b⟩]⟩
  else ⟨st.comps, st.r, st.cmds ++ [if o.act = 8 then ⟨0, e, 0, [⟨o.to.kind, defOf ks o.to.kind⟩]⟩ else if o.act = 9 then ⟨1, e, o.to.kind, []⟩ else if o.act = 10 then ⟨2, e, 0, []⟩ else ⟨3, ⟨0, 0⟩, 0, (wFit ks s.spawn).1⟩], st.evs⟩
/-- The runner in memory. -/
def runA (ks : List Kind) (s : Sys) (e : Ent) (cv : AV) (r : UInt64 × UInt64) (kv ev : AV) (index : Int) : AV :=
  .agg [kindsA false false ks, sA s.name, intsA false s.wth, intsA false s.wout, intsA false s.reads, intsA false s.writes, opsA false s.ops, compsA false false s.spawn, iA e.n, iA e.gen, cv, uA r.1, uA r.2, kv, ev, iA index]
end Go.Proofs.YtkoehhpfjpdkcaaGreat

namespace Go.Proofs.YtkoehhpfjpdkcaaGreat
set_option linter.unusedVariables false
theorem compOf_step {cs : List Comp} {i : Nat} {k : Int} {c : Comp} (h : i < cs.length) (e : cs[i] = c) : compOf (cs.drop i) k = if c.kind = k then some c else compOf (cs.drop (i + 1)) k := by
  rw [List.drop_eq_getElem_cons h, e]
  unfold compOf
  rw [List.find?_cons]
  by_cases e : c.kind = k <;> simp [e]
theorem vals_ps (ks : List Kind) (s : Sys) (e : Ent) (cs : List Comp) (r : UInt64 × UInt64) (K mk E me : Nat) (index k : Int) (hl : cs.length ≤ 1099511627776) : PS Tryz.prog 62 [.fp (runA ks s e (compsA false false cs) r (.sl K 0 mk) (.sl E 0 me) index).cells, iA k] (intsA false (valsOf cs k)) := by
  have hcm : (cs.map (compA false)).length = cs.length := List.length_map _
  obtain ⟨res, hres⟩ : ∃ res, compOf cs k = res := ⟨_, rfl⟩
  unfold valsOf
  rw [hres]
  refine Spec.of (nt := 36) (res := [.tmp 4]) Tryz.func62 rfl (by kernel_rfl) rfl rfl rfl fun Sf => ?_
  (repeat (first | refine WK ?_ | refine All.i fun X => ?_ | refine AllY.i fun Y => ?_))
  refine AWP.lp (fun i : Nat => ⟨[(0, .fp (runA ks s e (compsA false false cs) r (.sl K 0 mk) (.sl E 0 me) index).cells), (1, iA k), (11, iA (cs.map (compA false)).length), (12, iA i)], Sf⟩) (fun i => i ≤ cs.length ∧ compOf (cs.drop i) k = res) (fun i => cs.length - i) 0 ⟨Nat.zero_le _, hres⟩ ?_
  rintro i ⟨hi, hr⟩
  (repeat (first | refine WK ?_ | refine All.i fun X => ?_ | refine AllY.i fun Y => ?_))
  refine AWP.cond rfl (fun hc => ?_) (fun hc => ?_)
  · have h : i < cs.length := by rw [decide_eq_true_eq, hcm] at hc; omega
    obtain ⟨⟨ck, cv⟩, hce⟩ : ∃ c, cs[i] = c := ⟨_, rfl⟩
    rw [compOf_step h hce] at hr
    dsimp only at hr
    have hat : (cs.map (compA false))[i]? = some (compA false ⟨ck, cv⟩) := by rw [List.getElem?_map, List.getElem?_eq_getElem h, hce]; rfl
    have him : i < (cs.map (compA false)).length := by omega
    (repeat (first | refine WK ?_ | refine All.i fun X => ?_ | refine AllY.i fun Y => ?_))
    by_cases e : ck = k
    · rw [if_pos e] at hr
      subst hr
      refine AWP.cond_t rfl (decide_eq_true e) ?_
      (repeat (first | refine WK ?_ | refine All.i fun X => ?_ | refine AllY.i fun Y => ?_))
      (refine AWP.ret ?_; (repeat (first | refine inB_r ?_ | refine andThen_r ?_)); refine retQ_r ?_); refine Ends.ps ?_
      rfl
    · rw [if_neg e] at hr
      refine AWP.cond_f rfl (decide_eq_false e) ?_
      (repeat (first | refine WK ?_ | refine All.i fun X => ?_ | refine AllY.i fun Y => ?_))
      refine lp_next (i + 1) ⟨h, hr⟩
  · have h : i = cs.length := by rw [decide_eq_false_iff_not, hcm] at hc; omega
    rw [h, List.drop_length] at hr
    have hr : res = none := hr.symm
    subst hr
    (repeat (first | refine WK ?_ | refine All.i fun X => ?_ | refine AllY.i fun Y => ?_))
    (refine AWP.ret ?_; (repeat (first | refine inB_r ?_ | refine andThen_r ?_)); refine retQ_r ?_)
    exact Ends.cv [.prim (.slice none 0 0)] [intsA false []] (.cons (.cell .nil) .nil)
/-- A reference that can be read. -/
def RdOK (cs : List Comp) (a : Arg) : Prop := a.has = true → 0 ≤ a.ref.field ∧ a.ref.field < (valsOf cs a.ref.kind).length
theorem arg_ps (ks : List Kind) (s : Sys) (e : Ent) (cs : List Comp) (r : UInt64 × UInt64) (K mk E me : Nat) (index : Int) (a : Arg) (hl : cs.length ≤ 1099511627776) (ha : RdOK cs a) : PS Tryz.prog 58 [.fp (runA ks s e (compsA false false cs) r (.sl K 0 mk) (.sl E 0 me) index).cells, argA a] (iA (argV cs a)) := by
  obtain ⟨ah, an, ⟨rk, rf⟩⟩ := a
  unfold argV
  refine Spec.of (nt := 19) (res := [.tmp 4]) Tryz.func58 rfl (by kernel_rfl) rfl rfl rfl fun Sf => ?_
  cases ah
  · (repeat (first | (refine AOps.gN ?_; first | (refine AOps.g_box ?_; refine AOps.goB ?_)) | refine WK ?_ | refine All.i fun X => ?_ | refine AllY.i fun Y => ?_))
    refine AWP.cond_f rfl rfl ?_
    (repeat (first | refine WK ?_ | refine All.i fun X => ?_ | refine AllY.i fun Y => ?_))
    (refine AWP.ret ?_; (repeat (first | refine inB_r ?_ | refine andThen_r ?_)); refine retQ_r ?_); refine Ends.ps ?_
    rfl
  · obtain ⟨h1, h2⟩ := ha rfl
    dsimp only at h1 h2
    have hv := vals_ps ks s e cs r K mk E me index rk hl
    obtain ⟨l, hle⟩ : ∃ l, valsOf cs rk = l := ⟨_, rfl⟩
    rw [hle] at hv h2
    obtain ⟨j, hj⟩ : ∃ j : Nat, rf = j := ⟨rf.toNat, by omega⟩
    subst hj
    have hjl : j < l.length := by omega
    have hat : (l.map iA)[j]? = some (iA l[j]) := by rw [List.getElem?_map, List.getElem?_eq_getElem hjl]; rfl
    have hlm : j < (l.map iA).length := by rw [List.length_map]; exact hjl
    (repeat (first | (refine AOps.gN ?_; first | (refine AOps.g_box ?_; refine AOps.goB ?_)) | refine WK ?_ | refine All.i fun X => ?_ | refine AllY.i fun Y => ?_))
    refine AWP.cond_t rfl rfl ?_
    (repeat refine WF ?_); refine AWP.region_run (by kernel_rfl) (by kernel_rfl) ?_; (repeat (first | (refine RGo.gN ?_; first | refine RGo.c2 (h := hv) (k := ?_)) | (refine RGo.gQ ?_; first | refine RGo.c2 (h := hv) (k := ?_)) | refine RK ?_ | refine RGo.nil (by kernel_rfl) ?_))
    (refine AWP.ret ?_; (repeat (first | refine inB_r ?_ | refine andThen_r ?_)); refine retQ_r ?_); refine Ends.ps ?_
    rw [if_pos rfl, hle, Int.toNat_natCast, List.getD_eq_getElem?_getD, List.getElem?_eq_getElem hjl]
    rfl
/-- The row of components with the values at j as an object. -/
def rowV (cs : List Comp) (j V : Nat) (c : Comp) : List AV := (cs.map (compA true)).set j (.agg [iA c.kind, .sl V 0 (c.vals.map iA).length])
theorem valsO_sp (ks : List Kind) (s : Sys) (e : Ent) (cs : List Comp) (r : UInt64 × UInt64) (K mk E me : Nat) (index : Int) (X C V j : Nat) (c : Comp) (hs : SortC cs) (hj : cs[j]? = some c) (hl : cs.length ≤ 1099511627776) :
    Spec Tryz.prog 62 [.ptr X 0 0, iA c.kind] [(X, .row 72 16 [runA ks s e (.sl C 0 cs.length) r (.sl K 0 mk) (.sl E 0 me) index]), (C, .row 104 2 (rowV cs j V c))]
      fun r' S' => r' = .sl V 0 (c.vals.map iA).length ∧ S' = [(X, .row 72 16 [runA ks s e (.sl C 0 cs.length) r (.sl K 0 mk) (.sl E 0 me) index]), (C, .row 104 2 (rowV cs j V c))] := by
  obtain ⟨hjl, hje⟩ := List.getElem?_eq_some_iff.1 hj
  have hrl : (rowV cs j V c).length = cs.length := by simp [rowV]
  have hrj : (rowV cs j V c)[j]? = some (.agg [iA c.kind, .sl V 0 (c.vals.map iA).length]) := List.getElem?_set_self (by simpa using hjl)
  have hri : ∀ i (h : i < j), (rowV cs j V c)[i]? = some (compA true (cs[i]'(by omega))) := fun i h => by
    unfold rowV
    rw [List.getElem?_set_ne (by omega), List.getElem?_map, List.getElem?_eq_getElem (by omega)]; rfl
  have hne : ∀ i (h : i < j), (cs[i]'(by omega)).kind ≠ c.kind := fun i h => by
    have := List.pairwise_iff_getElem.1 hs i j (by omega) hjl h
    rw [hje] at this
    omega
  refine Spec.of (nt := 36) (res := [.tmp 4]) Tryz.func62 rfl (by kernel_rfl) rfl rfl rfl fun Sf => ?_
  (repeat (first | refine WK ?_ | refine All.i fun X => ?_ | refine AllY.i fun Y => ?_))
  refine AWP.lp (fun i : Nat => ⟨[(0, .ptr X 0 0), (1, iA c.kind), (11, iA cs.length), (12, iA i)], (X, .row 72 16 [runA ks s e (.sl C 0 cs.length) r (.sl K 0 mk) (.sl E 0 me) index]) :: (C, .row 104 2 (rowV cs j V c)) :: Sf⟩) (fun i => i ≤ j) (fun i => j - i) 0 (Nat.zero_le _) ?_
  rintro i hi
  have hicl : i < cs.length := by omega
  (repeat (first | refine WK ?_ | refine All.i fun X => ?_ | refine AllY.i fun Y => ?_))
  refine AWP.cond_t rfl (decide_eq_true (by omega)) ?_
  by_cases e1 : i = j
  · subst e1
    have hat := hrj
    (repeat (first | refine WK ?_ | refine All.i fun X => ?_ | refine AllY.i fun Y => ?_))
    refine AWP.cond_t rfl (decide_eq_true rfl) ?_
    (repeat (first | refine WK ?_ | refine All.i fun X => ?_ | refine AllY.i fun Y => ?_))
    (refine AWP.ret ?_; (repeat (first | refine inB_r ?_ | refine andThen_r ?_)); refine retQ_r ?_)
    exact Ends.sp [.sl V 0 (c.vals.map iA).length] [(X, _), (C, _)] ⟨rfl, rfl⟩
  · have hij : i < j := by omega
    have hat := hri i hij
    have hn := hne i hij
    obtain ⟨⟨ck, cv⟩, hce⟩ : ∃ d, cs[i]'(by omega) = d := ⟨_, rfl⟩
    rw [hce] at hat hn
    (repeat (first | refine WK ?_ | refine All.i fun X => ?_ | refine AllY.i fun Y => ?_))
    refine AWP.cond_f rfl (decide_eq_false hn) ?_
    (repeat (first | refine WK ?_ | refine All.i fun X => ?_ | refine AllY.i fun Y => ?_))
    refine lp_next (i + 1) hij
end Go.Proofs.YtkoehhpfjpdkcaaGreat

namespace Go.Proofs.YtkoehhpfjpdkcaaGreat
set_option linter.unusedVariables false
abbrev runO (ks : List Kind) (s : Sys) (e : Ent) (C n : Nat) (r : UInt64 × UInt64) (K mk E me : Nat) (index : Int) : AO := .row 72 16 [runA ks s e (.sl C 0 n) r (.sl K 0 mk) (.sl E 0 me) index]
set_option maxRecDepth 4000 in
set_option maxHeartbeats 1000000 in
theorem value_po (ks : List Kind) (s : Sys) (e : Ent) (C n : Nat) (r : UInt64 × UInt64) (K mk E me : Nat) (index : Int) (X : Nat) (act a b : Int) (h0 : 0 ≤ act) (h7 : act ≤ 7) (ha : -1099511627776 ≤ a ∧ a ≤ 1099511627776) (hb : -1099511627776 ≤ b ∧ b ≤ 1099511627776) (hr : r.2.toNat % 2 = 1) :
    PO Tryz.prog 61 [.ptr X 0 0, iA act, iA a, iA b] X (runO ks s e C n r K mk E me index) (iA (valueV act a b r).1) (runO ks s e C n (valueV act a b r).2 K mk E me index) := by
  have hm := mul_ps a b
  refine Spec.of (nt := 63) (res := [.tmp 8]) Tryz.func61 rfl (by kernel_rfl) rfl rfl rfl fun Sf => ?_
  rcases (show act = 0 ∨ act = 1 ∨ act = 2 ∨ act = 3 ∨ act = 4 ∨ act = 5 ∨ act = 6 ∨ act = 7 by omega) with rfl | rfl | rfl | rfl | rfl | rfl | rfl | rfl
  · (repeat (first | refine WK ?_ | refine All.i fun X => ?_ | refine AllY.i fun Y => ?_))
    refine AWP.cond_f rfl rfl ?_
    (repeat (first | refine WK ?_ | refine All.i fun X => ?_ | refine AllY.i fun Y => ?_))
    refine AWP.cond_f rfl rfl ?_
    (repeat (first | refine WK ?_ | refine All.i fun X => ?_ | refine AllY.i fun Y => ?_))
    refine AWP.cond_f rfl rfl ?_
    (repeat (first | refine WK ?_ | refine All.i fun X => ?_ | refine AllY.i fun Y => ?_))
    refine AWP.cond_f rfl rfl ?_
    (repeat (first | refine WK ?_ | refine All.i fun X => ?_ | refine AllY.i fun Y => ?_))
    refine AWP.cond_f rfl rfl ?_
    (repeat (first | refine WK ?_ | refine All.i fun X => ?_ | refine AllY.i fun Y => ?_))
    refine AWP.cond_f rfl rfl ?_
    (repeat (first | refine WK ?_ | refine All.i fun X => ?_ | refine AllY.i fun Y => ?_))
    refine AWP.cond_f rfl rfl ?_
    (repeat (first | refine WK ?_ | refine All.i fun X => ?_ | refine AllY.i fun Y => ?_))
    (refine AWP.ret ?_; (repeat (first | refine inB_r ?_ | refine andThen_r ?_)); refine retQ_r ?_)
    exact Ends.sp [iA a] [(X, _)] ⟨rfl, rfl⟩
  · (repeat (first | refine WK ?_ | refine All.i fun X => ?_ | refine AllY.i fun Y => ?_))
    refine AWP.cond_t rfl rfl ?_
    (repeat (first | refine WK ?_ | refine All.i fun X => ?_ | refine AllY.i fun Y => ?_))
    (refine AWP.ret ?_; (repeat (first | refine inB_r ?_ | refine andThen_r ?_)); refine retQ_r ?_)
    exact Ends.sp [iA (a + b)] [(X, _)] ⟨rfl, rfl⟩
  · (repeat (first | refine WK ?_ | refine All.i fun X => ?_ | refine AllY.i fun Y => ?_))
    refine AWP.cond_f rfl rfl ?_
    (repeat (first | refine WK ?_ | refine All.i fun X => ?_ | refine AllY.i fun Y => ?_))
    refine AWP.cond_t rfl rfl ?_
    (repeat (first | (refine AOps.gN ?_; first | refine AOps.p (W.subE (a - b) rfl (by omega) rfl rfl) rfl ?_) | refine WK ?_ | refine All.i fun X => ?_ | refine AllY.i fun Y => ?_))
    (refine AWP.ret ?_; (repeat (first | refine inB_r ?_ | refine andThen_r ?_)); refine retQ_r ?_)
    exact Ends.sp [iA (a - b)] [(X, _)] ⟨rfl, rfl⟩
  · (repeat (first | refine WK ?_ | refine All.i fun X => ?_ | refine AllY.i fun Y => ?_))
    refine AWP.cond_f rfl rfl ?_
    (repeat (first | refine WK ?_ | refine All.i fun X => ?_ | refine AllY.i fun Y => ?_))
    refine AWP.cond_f rfl rfl ?_
    (repeat (first | refine WK ?_ | refine All.i fun X => ?_ | refine AllY.i fun Y => ?_))
    refine AWP.cond_t rfl rfl ?_
    (repeat (first | (refine AOps.gN ?_; first | (refine AOps.g_callf ?_; first | refine AOps.c2 (h := (hm ..)) (k := ?_))) | refine WK ?_ | refine All.i fun X => ?_ | refine AllY.i fun Y => ?_))
    (refine AWP.ret ?_; (repeat (first | refine inB_r ?_ | refine andThen_r ?_)); refine retQ_r ?_)
    exact Ends.sp [iA (mulF a b)] [(X, _)] ⟨rfl, rfl⟩
  · (repeat (first | refine WK ?_ | refine All.i fun X => ?_ | refine AllY.i fun Y => ?_))
    refine AWP.cond_f rfl rfl ?_
    (repeat (first | refine WK ?_ | refine All.i fun X => ?_ | refine AllY.i fun Y => ?_))
    refine AWP.cond_f rfl rfl ?_
    (repeat (first | refine WK ?_ | refine All.i fun X => ?_ | refine AllY.i fun Y => ?_))
    refine AWP.cond_f rfl rfl ?_
    (repeat (first | refine WK ?_ | refine All.i fun X => ?_ | refine AllY.i fun Y => ?_))
    refine AWP.cond_t rfl rfl ?_
    (repeat (first | refine WK ?_ | refine All.i fun X => ?_ | refine AllY.i fun Y => ?_))
    (refine AWP.ret ?_; (repeat (first | refine inB_r ?_ | refine andThen_r ?_)); refine retQ_r ?_)
    exact Ends.sp [iA (if b < a then b else a)] [(X, _)] ⟨rfl, rfl⟩
  · (repeat (first | refine WK ?_ | refine All.i fun X => ?_ | refine AllY.i fun Y => ?_))
    refine AWP.cond_f rfl rfl ?_
    (repeat (first | refine WK ?_ | refine All.i fun X => ?_ | refine AllY.i fun Y => ?_))
    refine AWP.cond_f rfl rfl ?_
    (repeat (first | refine WK ?_ | refine All.i fun X => ?_ | refine AllY.i fun Y => ?_))
    refine AWP.cond_f rfl rfl ?_
    (repeat (first | refine WK ?_ | refine All.i fun X => ?_ | refine AllY.i fun Y => ?_))
    refine AWP.cond_f rfl rfl ?_
    (repeat (first | refine WK ?_ | refine All.i fun X => ?_ | refine AllY.i fun Y => ?_))
    refine AWP.cond_t rfl rfl ?_
    (repeat (first | refine WK ?_ | refine All.i fun X => ?_ | refine AllY.i fun Y => ?_))
    (refine AWP.ret ?_; (repeat (first | refine inB_r ?_ | refine andThen_r ?_)); refine retQ_r ?_)
    exact Ends.sp [iA (if a < b then b else a)] [(X, _)] ⟨rfl, rfl⟩
  · (repeat (first | refine WK ?_ | refine All.i fun X => ?_ | refine AllY.i fun Y => ?_))
    refine AWP.cond_f rfl rfl ?_
    (repeat (first | refine WK ?_ | refine All.i fun X => ?_ | refine AllY.i fun Y => ?_))
    refine AWP.cond_f rfl rfl ?_
    (repeat (first | refine WK ?_ | refine All.i fun X => ?_ | refine AllY.i fun Y => ?_))
    refine AWP.cond_f rfl rfl ?_
    (repeat (first | refine WK ?_ | refine All.i fun X => ?_ | refine AllY.i fun Y => ?_))
    refine AWP.cond_f rfl rfl ?_
    (repeat (first | refine WK ?_ | refine All.i fun X => ?_ | refine AllY.i fun Y => ?_))
    refine AWP.cond_f rfl rfl ?_
    (repeat (first | refine WK ?_ | refine All.i fun X => ?_ | refine AllY.i fun Y => ?_))
    refine AWP.cond_t rfl rfl ?_
    (repeat (first | refine WK ?_ | refine All.i fun X => ?_ | refine AllY.i fun Y => ?_))
    by_cases hab : a < b
    · refine AWP.cond_t rfl (decide_eq_true hab) ?_
      (repeat (first | refine WK ?_ | refine All.i fun X => ?_ | refine AllY.i fun Y => ?_))
      (refine AWP.ret ?_; (repeat (first | refine inB_r ?_ | refine andThen_r ?_)); refine retQ_r ?_)
      exact Ends.sp [iA 1] [(X, _)] ⟨by unfold valueV; rw [if_neg (by decide), if_neg (by decide), if_neg (by decide), if_neg (by decide), if_neg (by decide), if_pos rfl, if_pos hab]; rfl, by unfold valueV; rw [if_neg (by decide), if_neg (by decide), if_neg (by decide), if_neg (by decide), if_neg (by decide), if_pos rfl]⟩
    · refine AWP.cond_f rfl (decide_eq_false hab) ?_
      (repeat (first | refine WK ?_ | refine All.i fun X => ?_ | refine AllY.i fun Y => ?_))
      (refine AWP.ret ?_; (repeat (first | refine inB_r ?_ | refine andThen_r ?_)); refine retQ_r ?_)
      exact Ends.sp [iA 0] [(X, _)] ⟨by unfold valueV; rw [if_neg (by decide), if_neg (by decide), if_neg (by decide), if_neg (by decide), if_neg (by decide), if_pos rfl, if_neg hab]; rfl, by unfold valueV; rw [if_neg (by decide), if_neg (by decide), if_neg (by decide), if_neg (by decide), if_neg (by decide), if_pos rfl]⟩
  · (repeat (first | refine WK ?_ | refine All.i fun X => ?_ | refine AllY.i fun Y => ?_))
    refine AWP.cond_f rfl rfl ?_
    (repeat (first | refine WK ?_ | refine All.i fun X => ?_ | refine AllY.i fun Y => ?_))
    refine AWP.cond_f rfl rfl ?_
    (repeat (first | refine WK ?_ | refine All.i fun X => ?_ | refine AllY.i fun Y => ?_))
    refine AWP.cond_f rfl rfl ?_
    (repeat (first | refine WK ?_ | refine All.i fun X => ?_ | refine AllY.i fun Y => ?_))
    refine AWP.cond_f rfl rfl ?_
    (repeat (first | refine WK ?_ | refine All.i fun X => ?_ | refine AllY.i fun Y => ?_))
    refine AWP.cond_f rfl rfl ?_
    (repeat (first | refine WK ?_ | refine All.i fun X => ?_ | refine AllY.i fun Y => ?_))
    refine AWP.cond_f rfl rfl ?_
    (repeat (first | refine WK ?_ | refine All.i fun X => ?_ | refine AllY.i fun Y => ?_))
    refine AWP.cond_t rfl rfl ?_
    (repeat (first | refine WK ?_ | refine All.i fun X => ?_ | refine AllY.i fun Y => ?_))
    have hv : valueV 7 a b r = if a < 1 then (0, r) else (((belowU r a.toNat).1.toNat : Int), (belowU r a.toNat).2) := by
      unfold valueV; rw [if_neg (by decide), if_neg (by decide), if_neg (by decide), if_neg (by decide), if_neg (by decide), if_neg (by decide), if_pos rfl]
    rw [hv]
    by_cases hab : a < 1
    · rw [if_pos hab]
      refine AWP.cond_t rfl (decide_eq_true hab) ?_
      (repeat (first | refine WK ?_ | refine All.i fun X => ?_ | refine AllY.i fun Y => ?_))
      (refine AWP.ret ?_; (repeat (first | refine inB_r ?_ | refine andThen_r ?_)); refine retQ_r ?_)
      exact Ends.sp [iA 0] [(X, _)] ⟨rfl, rfl⟩
    · rw [if_neg hab]
      obtain ⟨q, hq⟩ : ∃ q : Nat, a = q := ⟨a.toNat, by omega⟩
      subst hq
      rw [Int.toNat_natCast]
      have hbl := belowR_ps r q (by omega) (by omega) hr
      obtain ⟨⟨x, r2⟩, hbe⟩ : ∃ p, belowU r q = p := ⟨_, rfl⟩
      rw [hbe] at hbl ⊢
      refine AWP.cond_f rfl (decide_eq_false hab) ?_
      (repeat refine WF ?_); refine AWP.region ?_; (repeat (first | (refine AOps.gN ?_; first | (refine AOps.g_callf ?_; first | refine AOps.c2 (h := (hbl ..)) (k := ?_))) | refine WO ?_ | refine All.i fun B => ?_ | refine AllY.i fun Y => ?_)); refine AOps.nil ?_; (repeat refine WN ?_)
      (repeat refine WF ?_); refine AWP.region ?_; (repeat (first | refine WO ?_ | refine All.i fun X => ?_ | refine AllY.i fun Y => ?_)); refine AOps.nil ?_; (repeat refine WN ?_)
      (repeat (first | refine WK ?_ | refine All.i fun X => ?_ | refine AllY.i fun Y => ?_))
      (refine AWP.ret ?_; (repeat (first | refine inB_r ?_ | refine andThen_r ?_)); refine retQ_r ?_)
      exact Ends.sp [iA x.toNat] [(X, runO ks s e C n r2 K mk E me index)] ⟨rfl, rfl⟩
end Go.Proofs.YtkoehhpfjpdkcaaGreat

namespace Go.Proofs.YtkoehhpfjpdkcaaGreat
set_option linter.unusedVariables false
theorem refNe (w : World) : (binOp .neq 78 (.agg [Value.int .i64 0, Value.int .i64 0].toArray) (.agg [Value.int .i64 0, Value.int .i64 0].toArray)).run Tryz.prog w = .ok (.bool false) w := by kernel_rfl
theorem argNe (w : World) : (binOp .neq 80 (.agg [Value.bool false, Value.int .i64 0, Value.int .i64 0, Value.int .i64 0].toArray) (.agg [Value.bool false, Value.int .i64 0, Value.int .i64 0, Value.int .i64 0].toArray)).run Tryz.prog w = .ok (.bool false) w := by kernel_rfl
/-- An argument that is valid. -/
structure ArgG (ks : List Kind) (reads writes : List Int) (a : Arg) : Prop where
  yes : a.has = true → a.n = 0 ∧ RefOK ks a.ref ∧ (reads.contains a.ref.kind = true ∨ writes.contains a.ref.kind = true)
  no : a.has = false → -1099511627776 ≤ a.n ∧ a.n ≤ 1099511627776 ∧ a.ref = ⟨0, 0⟩
/-- An operation that is valid. -/
structure OpG (ks : List Kind) (reads writes : List Int) (o : Op) : Prop where
  lo : 0 ≤ o.act
  hi : o.act ≤ 12
  a : ArgG ks reads writes o.a
  b : ArgG ks reads writes o.b
  one : twoOp o.act = false → o.b = arg0
  sets : setsB o.act = true → RefOK ks o.to ∧ writes.contains o.to.kind = true
  puts : o.act = 8 ∨ o.act = 9 → 0 ≤ o.to.kind ∧ o.to.kind < ks.length ∧ o.to.field = 0
  none : 10 ≤ o.act → o.to = ⟨0, 0⟩
end Go.Proofs.YtkoehhpfjpdkcaaGreat

namespace Go.Proofs.YtkoehhpfjpdkcaaGreat
set_option linter.unusedVariables false
theorem holds_range {k : Kind} {v : List Int} (h : holdsOf k v = true) : v.length = k.fields.length ∧ ∀ x ∈ v, -4294967296 ≤ x ∧ x ≤ 8589934592 := by
  obtain ⟨_, h2, h3⟩ := fitOf_holds (k := k) (v := v) (by rw [holds_fit h])
  rw [holds_fit h] at h2
  refine ⟨h3, fun x hx => ?_⟩
  have h2 : v = List.zipWith nearOf k.fields v := h2
  rw [h2] at hx
  obtain ⟨i, hi, rfl⟩ := List.getElem_of_mem hx
  rw [List.getElem_zipWith]
  exact nearOf_range _ _
/-- The kinds that are there. -/
def HasK (s : Sys) (cs : List Comp) : Prop := ∀ k : Int, s.reads.contains k = true ∨ s.writes.contains k = true → (compOf cs k).isSome = true
theorem ref_comp {ks : List Kind} {s : Sys} {cs : List Comp} (hh : heldOf ks cs = true) (hs : HasK s cs) {r : Ref} (hr : RefOK ks r) (hk : s.reads.contains r.kind = true ∨ s.writes.contains r.kind = true) :
    ∃ (c : Comp) (k : Kind), compOf cs r.kind = some c ∧ c.kind = r.kind ∧ ks[r.kind.toNat]? = some k ∧ holdsOf k c.vals = true ∧ 0 ≤ r.field ∧ r.field < k.fields.length ∧ c.vals.length = k.fields.length := by
  obtain ⟨h1, h2, h3, h4⟩ := hr
  obtain ⟨c, hc⟩ := Option.isSome_iff_exists.1 (hs _ hk)
  obtain ⟨hso, hm⟩ := held_iff.1 hh
  obtain ⟨hcm, hck⟩ := (compOf_iff hso).1 hc
  obtain ⟨_, _, k, hkk, hho⟩ := hm c hcm
  rw [hck] at hkk
  unfold flds at h4
  rw [hkk] at h4
  exact ⟨c, k, hc, hck, hkk, hho, h3, h4, (holds_range hho).1⟩
theorem arg_ok {ks : List Kind} {s : Sys} {cs : List Comp} (hh : heldOf ks cs = true) (hs : HasK s cs) {a : Arg} (ha : ArgG ks s.reads s.writes a) : RdOK cs a ∧ -1099511627776 ≤ argV cs a ∧ argV cs a ≤ 1099511627776 := by
  unfold RdOK argV
  cases hb : a.has
  · obtain ⟨h1, h2, h3⟩ := ha.no hb
    exact ⟨(fun h => by cases h), h1, h2⟩
  · obtain ⟨h1, h2, h3⟩ := ha.yes hb
    obtain ⟨c, k, e1, e2, e3, e4, e5, e6, e7⟩ := ref_comp hh hs h2 h3
    have hv : valsOf cs a.ref.kind = c.vals := by unfold valsOf; rw [e1]
    rw [hv]
    refine ⟨fun _ => ⟨e5, by omega⟩, ?_⟩
    rw [if_pos rfl, List.getD_eq_getElem?_getD, List.getElem?_eq_getElem (by omega)]
    have := (holds_range e4).2 _ (List.getElem_mem (l := c.vals) (n := a.ref.field.toNat) (by omega))
    simp only [Option.getD_some]
    omega
theorem zip_set {fs : List Field} : ∀ {v : List Int} {i : Nat} {x : Int}, List.zipWith nearOf fs v = v → (∀ f, fs[i]? = some f → nearOf f x = x) → List.zipWith nearOf fs (v.set i x) = v.set i x := by
  induction fs with
  | nil =>
    intro v i x h _
    rw [List.zipWith_nil_left] at h
    rw [← h]
    rfl
  | cons f fs ih =>
    intro v i x h hx
    cases v with
    | nil => rfl
    | cons y v =>
      rw [List.zipWith_cons_cons] at h
      injection h with h1 h2
      cases i with
      | zero => rw [List.set_cons_zero, List.zipWith_cons_cons, hx f rfl, h2]
      | succ i => rw [List.set_cons_succ, List.zipWith_cons_cons, h1, ih h2 hx]
theorem holds_set {k : Kind} {v : List Int} (h : holdsOf k v = true) (ho : oneErr k = 0) {i : Nat} {f : Field} (hf : k.fields[i]? = some f) (x : Int) : holdsOf k (v.set i (nearOf f x)) = true := by
  obtain ⟨h1, _⟩ := holds_range h
  obtain ⟨_, h2, _⟩ := fitOf_holds (k := k) (v := v) (by rw [holds_fit h])
  rw [holds_fit h] at h2
  have hfe : fieldErr f = 0 := (oneErr_zero ho).2.2 f (List.mem_of_getElem? hf)
  unfold holdsOf
  rw [fitOf_ok ho (by simp [h1]), zip_set h2.symm (fun g hg => by rw [hf] at hg; injection hg with hg; subst hg; exact near_near hfe x)]
  simp
/-- A field is set: the components are the same but for one value. -/
theorem setV_at {cs : List Comp} (hs : SortC cs) {k : Int} {c : Comp} (hc : compOf cs k = some c) (f : Nat) (v : Int) : cs[compAt cs k]? = some c ∧ setV cs k f v = cs.set (compAt cs k) ⟨c.kind, c.vals.set f v⟩ := by
  constructor
  · obtain ⟨hcm, hck⟩ := (compOf_iff hs).1 hc
    obtain ⟨i, hi, hie⟩ := List.getElem_of_mem hcm
    have hat : cs[i]? = some c := by rw [List.getElem?_eq_getElem hi, hie]
    obtain ⟨h1, h2, h3, h4, _⟩ := ks_parts (key := Comp.kind) hs hat
    have : compAt cs k = i := tw_len (Nat.le_of_lt hi) (fun j x hj hx => by
      have := h3 x (by rw [List.mem_take_iff_getElem]; obtain ⟨a, b⟩ := List.getElem?_eq_some_iff.1 hx; exact ⟨j, by omega, b⟩)
      simp; omega) (fun x hx => by rw [hat] at hx; injection hx with hx; subst hx; simp; omega)
    rw [this]; exact hat
  · unfold setV; rw [hc]
theorem setV_held {ks : List Kind} {cs : List Comp} (hk : checkErr ks = 0) (hh : heldOf ks cs = true) {r : Ref} {c : Comp} {k : Kind} (hc : compOf cs r.kind = some c) (hkk : ks[r.kind.toNat]? = some k) (h0 : 0 ≤ r.field) (hf : r.field < k.fields.length) (x : Int) : heldOf ks (setV cs r.kind r.field.toNat (nearOf (fieldOf ks r) x)) = true := by
  obtain ⟨hso, hm⟩ := held_iff.1 hh
  obtain ⟨hcm, hck⟩ := (compOf_iff hso).1 hc
  obtain ⟨e1, e2⟩ := setV_at hso hc r.field.toNat (nearOf (fieldOf ks r) x)
  obtain ⟨g1, g2⟩ := ks_set (key := Comp.kind) hso e1 (z := ⟨c.kind, c.vals.set r.field.toNat (nearOf (fieldOf ks r) x)⟩) rfl
  obtain ⟨q1, q2, k', hk', hho⟩ := hm c hcm
  have hkk' : k' = k := by rw [hck, hkk] at hk'; injection hk' with hk'; exact hk'.symm
  subst hkk'
  rw [e2]
  refine held_iff.2 ⟨g1, fun d hd => ?_⟩
  rcases (g2 d).1 hd with rfl | ⟨hd, _⟩
  · have hfe : k'.fields[r.field.toNat]? = some (fieldOf ks r) := by
      unfold fieldOf
      rw [hkk]
      dsimp only
      rw [List.getD_eq_getElem?_getD, List.getElem?_eq_getElem (by omega)]
      rfl
    exact ⟨q1, q2, k', hk', holds_set hho ((checkErr_one hk).2 k' (List.mem_of_getElem? hkk)) hfe x⟩
  · exact hm d hd
/-- The same kinds, in order. -/
theorem setV_kinds {cs : List Comp} (hs : SortC cs) (k : Int) (f : Nat) (v : Int) : (setV cs k f v).map Comp.kind = cs.map Comp.kind := by
  cases hc : compOf cs k with
  | none => unfold setV; rw [hc]
  | some c =>
    obtain ⟨e1, e2⟩ := setV_at hs hc f v
    rw [e2, List.map_set]
    obtain ⟨a, b⟩ := List.getElem?_eq_some_iff.1 e1
    have : (cs.map Comp.kind)[compAt cs k]? = some c.kind := by rw [List.getElem?_map, e1]; rfl
    obtain ⟨a', b'⟩ := List.getElem?_eq_some_iff.1 this
    show (cs.map Comp.kind).set _ c.kind = _
    conv => lhs; rw [← b']
    rw [List.set_getElem_self]
theorem hasK_kinds {s : Sys} {cs ds : List Comp} (h : HasK s cs) (e : ds.map Comp.kind = cs.map Comp.kind) : HasK s ds := by
  intro k hk
  have h1 := h k hk
  unfold compOf at h1 ⊢
  rw [List.find?_isSome] at h1 ⊢
  obtain ⟨c, hc, hck⟩ := h1
  have : c.kind ∈ ds.map Comp.kind := by rw [e]; exact List.mem_map.2 ⟨c, hc, rfl⟩
  obtain ⟨d, hd, hde⟩ := List.mem_map.1 this
  exact ⟨d, hd, by simp only [decide_eq_true_eq] at hck ⊢; omega⟩
end Go.Proofs.YtkoehhpfjpdkcaaGreat

namespace Go.Proofs.YtkoehhpfjpdkcaaGreat
set_option linter.unusedVariables false
theorem default_ps (k : Kind) (hl : k.fields.length ≤ 1099511627776) : PS Tryz.prog 63 [kindA false k] (intsA true (fitOf k (List.replicate k.fields.length 0)).1) := by
  have hft := fit_ps k (List.replicate k.fields.length 0)
  have hfm : (k.fields.map fieldA).length = k.fields.length := List.length_map _
  have hz : (List.replicate k.fields.length (0 : Int)).map iA = List.replicate (k.fields.map fieldA).length (iA 0) := by rw [List.map_replicate, hfm]
  refine Spec.of (nt := 15) (res := [.tmp 2]) Tryz.func63 rfl (by kernel_rfl) rfl rfl rfl fun Sf => ?_
  (repeat refine WF ?_); refine AWP.region ?_; (repeat (first | (refine AOps.gN ?_; first | (refine AOps.g_box ?_; refine AOps.goB ?_)) | refine WO ?_ | refine All.i fun X => ?_ | refine AllY.i fun Y => ?_)); refine AOps.nil ?_; (repeat refine WN ?_)
  refine AWP.rs fun Y => AWP.rs fun K => ?_
  have hle : Spec Tryz.prog 80 [kindA false k, .sl K 0 (k.fields.map fieldA).length] [(K, .row 3 1 (List.replicate (k.fields.map fieldA).length (iA 0)))] fun r' S' => r' = .tup [intsA true (fitOf k (List.replicate k.fields.length 0)).1, iA (fitOf k (List.replicate k.fields.length 0)).2] ∧ S' = [(K, .row 3 1 (List.replicate (k.fields.map fieldA).length (iA 0)))] := by
    refine PS.lend hft ?_ (.cons .fz (.cons (Ld.rowL (by rw [← hz]; exact Lds.fz) .here (by simp)) .nil))
    have hlo := looses_map (f := iA) (fun _ => rfl) (fitOf k (List.replicate k.fields.length 0)).1
    simp [AV.loose, AV.looses, hlo]
  (repeat refine WF ?_); refine AWP.region_run (by kernel_rfl) (by kernel_rfl) ?_; (repeat (first | (refine RGo.gN ?_; first | refine RGo.s (W.make rfl rfl (by exact At.f) rfl (.inr rfl) rfl rfl (Nat.le_refl _) (by rw [hfm]; omega) (by rw [hfm]; unfold maxLen; omega)) rfl ?_ | refine RGo.z2 (h := hle) (hT := .tup (.cons (.cell (.lst (Y := Y) rfl) rfl rfl) rfl rfl (.cons (.cell .frz rfl rfl) rfl rfl .nil))) (k := ?_)) | (refine RGo.gQ ?_; first | refine RGo.s (W.make rfl rfl (by exact At.f) rfl (.inr rfl) rfl rfl (Nat.le_refl _) (by rw [hfm]; omega) (by rw [hfm]; unfold maxLen; omega)) rfl ?_ | refine RGo.z2 (h := hle) (hT := .tup (.cons (.cell (.lst (Y := Y) rfl) rfl rfl) rfl rfl (.cons (.cell .frz rfl rfl) rfl rfl .nil))) (k := ?_)) | refine RK ?_ | refine RGo.nil (by kernel_rfl) ?_))
  (repeat (first | refine WK ?_ | refine All.i fun X => ?_ | refine AllY.i fun Y => ?_))
  (refine AWP.ret ?_; (repeat (first | refine inB_r ?_ | refine andThen_r ?_)); refine retQ_r ?_)
  exact Ends.cv [.sl Y 0 ((fitOf k (List.replicate k.fields.length 0)).1.map iA).length] [intsA true (fitOf k (List.replicate k.fields.length 0)).1] (.cons (.cell (.sl (p := 1) (by exact At.f) rfl)) .nil)
end Go.Proofs.YtkoehhpfjpdkcaaGreat

namespace Go.Proofs.YtkoehhpfjpdkcaaGreat
set_option linter.unusedVariables false
set_option linter.unusedSimpArgs false
open Go.Sort
set_option maxHeartbeats 1000000 in
theorem insC_po (f : FuncId) (cap : List AV) (cf : Comp → Comp → Int) (hst : st1s cap = true) (hcf : ∀ x y, PS Tryz.prog f ((compA false) x :: (compA false) y :: cap) (iA (cf x y))) (X n : Nat) (d : Array Comp) (a b : Nat) (hn : n = d.size) (hab : a ≤ b) (hb : b ≤ d.size) (hz : d.size ≤ 1099511627776) : PO Tryz.prog 99 [.sl X 0 n, iA a, iA b, .fn f cap] X (.row 104 2 (d.toList.map (compA false))) (.tup []) (.row 104 2 ((insertionSort (ltOf cf) d a b).toList.map (compA false))) := by
  obtain ⟨r, hr⟩ : ∃ r, insertionSort (ltOf cf) d a b = r := ⟨_, rfl⟩
  rw [hr]
  unfold insertionSort at hr
  refine Spec.of (nt := 53) (res := []) Tryz.func99 rfl (by kernel_rfl) rfl rfl rfl fun Sf => ?_
  (repeat (first | refine WK ?_ | refine All.i fun X => ?_ | refine AllY.i fun Y => ?_))
  refine AWP.lp2 (fun (i : Nat) (e : Array Comp) => ⟨[(0, .sl X 0 n), (1, iA a), (2, iA b), (3, .fn f cap), (8, iA i)], (X, .row 104 2 (e.toList.map (compA false))) :: Sf⟩) (fun i e => i ≤ max b (a + 1) ∧ a < i ∧ e.size = d.size ∧ insOuter (ltOf cf) a b i e = r) (fun i _ => b - i) (a + 1) d ⟨by omega, by omega, rfl, hr⟩ ?_
  rintro i e ⟨hi, hai, he, hfold⟩
  rw [insOuter] at hfold
  (repeat (first | refine WK ?_ | refine All.i fun X => ?_ | refine AllY.i fun Y => ?_))
  refine AWP.cond rfl (fun hc => ?_) (fun hc => ?_)
  · have h : i < b := by have := of_decide_eq_true hc; omega
    rw [if_pos h] at hfold
    (repeat (first | refine WK ?_ | refine All.i fun X => ?_ | refine AllY.i fun Y => ?_))
    refine AWP.lp2 (fun (j : Nat) (u : Array Comp) => ⟨[(0, .sl X 0 n), (1, iA a), (2, iA b), (3, .fn f cap), (8, iA i), (9, iA j)], (X, .row 104 2 (u.toList.map (compA false))) :: Sf⟩) (fun j u => j ≤ i ∧ u.size = d.size ∧ insInner (ltOf cf) a j u = insInner (ltOf cf) a i e) (fun j _ => j) i e ⟨Nat.le_refl _, he, rfl⟩ ?_
    rintro j u ⟨hj, hu, hin⟩
    rcases Bool.eq_false_or_eq_true (decide ((a : Int) < (j : Int))) with g | g
    · have hja : a < j := by have := of_decide_eq_true g; omega
      obtain ⟨q, rfl⟩ : ∃ q, j = q + 1 := ⟨j - 1, by omega⟩
      have h1 := arr_at (compA false) (d := u) (i := q + 1) (by omega)
      have h2 := arr_at (compA false) (d := u) (i := q) (by omega)
      have hl := hcf (u[q + 1]!) (u[q]!)
      rw [insInner] at hin
      (repeat refine WF ?_)
      (repeat refine WF ?_); refine AWP.region_run (by kernel_rfl) (by kernel_rfl) ?_; (repeat (first | (refine RGo.gN ?_; first | (refine RGo.g_callv ?_; first | refine RGo.k2 (h := (hl ..)) (k := ?_)) | refine RGo.go (h := W.subE (q : Int) (by omega) (by omega) rfl rfl) (k := ?_)) | (refine RGo.gQ ?_; first | (refine RGo.g_callv ?_; first | refine RGo.k2 (h := (hl ..)) (k := ?_)) | refine RGo.go (h := W.subE (q : Int) (by omega) (by omega) rfl rfl) (k := ?_)) | refine RK ?_ | refine RGo.nil (by kernel_rfl) ?_))
      (repeat refine WF ?_)
      refine AWP.cond rfl (fun hd => ?_) (fun hd => ?_)
      · have hd : (ltOf cf) u[q + 1]! u[q]! = true := by simpa [g, ltOf] using hd
        rw [hd, if_pos (by simp; omega)] at hin
        obtain ⟨y, hy⟩ := arr_set2 (compA false) (d := u) (i := q + 1) (j := q) (by omega) u[q]!
        (repeat refine WF ?_)
        (repeat refine WF ?_); refine AWP.region_run (by kernel_rfl) (by kernel_rfl) ?_; (repeat (first | (refine RGo.gN ?_; first | refine RGo.go (h := W.subE (q : Int) (by omega) (by omega) rfl rfl) (k := ?_) | refine RGo.s (W.store rfl rfl (by exact At.f) hy (by exact rfl)) rfl ?_) | (refine RGo.gQ ?_; first | refine RGo.go (h := W.subE (q : Int) (by omega) (by omega) rfl rfl) (k := ?_) | refine RGo.s (W.store rfl rfl (by exact At.f) hy (by exact rfl)) rfl ?_) | refine RK ?_ | refine RGo.nil (by kernel_rfl) ?_))
        (repeat (first | (refine AOps.gN ?_; first | refine AOps.p (W.subE (q : Int) (by omega) (by omega) rfl rfl) rfl ?_) | refine WK ?_ | refine All.i fun X => ?_ | refine AllY.i fun Y => ?_))
        refine lp_next2 q (swp u (q + 1) q) ⟨by omega, by rw [size_swp]; exact hu, hin⟩ (h0 := by rw [← arr_swp (compA false) (by omega) (by omega)]; exact ⟨by exact Lk.f, by exact Sub.f⟩)
      · have hd : (ltOf cf) u[q + 1]! u[q]! = false := by simpa [g, ltOf] using hd
        rw [hd, if_neg (by simp)] at hin
        (repeat (first | refine WK ?_ | refine All.i fun X => ?_ | refine AllY.i fun Y => ?_))
        refine lp_next2 (i + 1) u ⟨by omega, by omega, hu, by rw [hin]; exact hfold⟩
    · have hja : j ≤ a := by have := of_decide_eq_false g; omega
      have hin2 : insInner (ltOf cf) a j u = u := by
        cases j with
        | zero => rfl
        | succ q => rw [insInner, if_neg (by simp; omega)]
      rw [hin2] at hin
      (repeat refine WF ?_)
      (repeat refine WF ?_); refine AWP.region_run (by kernel_rfl) (by kernel_rfl) ?_; (repeat (first | refine RK ?_ | refine RGo.nil (by kernel_rfl) ?_))
      (repeat refine WF ?_)
      refine AWP.cond_f rfl (by simp [g]) ?_
      (repeat (first | refine WK ?_ | refine All.i fun X => ?_ | refine AllY.i fun Y => ?_))
      refine lp_next2 (i + 1) u ⟨by omega, by omega, hu, by rw [hin]; exact hfold⟩
  · have h : ¬ i < b := by have := of_decide_eq_false hc; omega
    rw [if_neg h] at hfold
    subst hfold
    (repeat (first | refine WK ?_ | refine All.i fun X => ?_ | refine AllY.i fun Y => ?_))
    refine retQ_n ?_
    exact Ends.void [(X, .row 104 2 (e.toList.map (compA false)))] ⟨rfl, rfl⟩
end Go.Proofs.YtkoehhpfjpdkcaaGreat

namespace Go.Proofs.YtkoehhpfjpdkcaaGreat
set_option linter.unusedVariables false
set_option linter.unusedSimpArgs false
open Go.Sort
theorem pdqC_small (f : FuncId) (cap : List AV) (cf : Comp → Comp → Int) (hst : st1s cap = true) (hf : ∀ x y, PS Tryz.prog f (compA false x :: compA false y :: cap) (iA (cf x y))) (X n limit : Nat) (d : Array Comp) (hn : n = d.size) (h12 : d.size ≤ 12) : PO Tryz.prog 94 [.sl X 0 n, iA 0, iA n, iA limit, .fn f cap] X (.row 104 2 (d.toList.map (compA false))) (.tup []) (.row 104 2 ((insertionSort (ltOf cf) d 0 d.size).toList.map (compA false))) := by
  have hs := insC_po f cap cf hst hf X n d 0 d.size hn (Nat.zero_le _) (Nat.le_refl _) (by omega)
  rw [← hn] at hs
  have hsz : d.size = n := hn.symm
  refine Spec.of (nt := 148) (res := []) Tryz.func94 rfl (by kernel_rfl) rfl rfl rfl fun Sf => ?_
  (repeat (first | refine WK ?_ | refine All.i fun X => ?_ | refine AllY.i fun Y => ?_))
  refine AWP.lp (fun _ : Unit => ⟨[(0, .sl X 0 n), (1, iA 0), (2, iA n), (3, iA limit), (4, .fn f cap)], (X, .row 104 2 (d.toList.map (compA false))) :: Sf⟩) (fun _ => True) (fun _ => 0) () trivial ?_
  rintro _ _
  refine AWP.block ?_
  (repeat (first | (refine AOps.gN ?_; first | refine AOps.p (W.subE (n : Int) (by omega) (by omega) rfl rfl) rfl ?_) | refine WK ?_ | refine All.i fun X => ?_ | refine AllY.i fun Y => ?_))
  refine AWP.cond_t rfl (decide_eq_true (by omega)) ?_
  (repeat (first | (refine AOps.gN ?_; first | (refine AOps.g_callf ?_; first | refine AOps.o4 (h := (hs ..)) (k := ?_))) | refine WK ?_ | refine All.i fun X => ?_ | refine AllY.i fun Y => ?_))
  (refine AWP.ret ?_; (repeat (first | refine inB_r ?_ | refine andThen_r ?_)); refine retQ_r ?_)
  rw [hsz]
  exact Ends.void [(X, _)] ⟨rfl, rfl⟩
theorem permIn_list {α : Type} [Inhabited α] {d u : Array α} (h : PermIn 0 d.size d u) : u.toList.Perm d.toList := by
  obtain ⟨h1, _, h3⟩ := h
  have e1 : u.extract 0 d.size = u := by rw [← h1]; exact Array.extract_size
  rwa [e1, Array.extract_size] at h3
theorem sortedIn_list {α : Type} [Inhabited α] {lt : α → α → Bool} {u : Array α} {n : Nat} (hn : n = u.size) (h : SortedIn lt 0 n u) : u.toList.Pairwise fun a b => lt b a = false := by
  rw [List.pairwise_iff_getElem]
  intro i j hi hj hij
  have hi' : i < u.size := by simpa using hi
  have hj' : j < u.size := by simpa using hj
  have := h i j (Nat.zero_le _) hij (by omega)
  rw [getElem!_pos u j hj', getElem!_pos u i hi'] at this
  simpa using this
set_option maxRecDepth 8000 in
theorem sortFuncC_sp (f : FuncId) (cap : List AV) (cf : Comp → Comp → Int) (hst : st1s cap = true) (hS : SWO (ltOf cf)) (hf : ∀ x y, PS Tryz.prog f (compA false x :: compA false y :: cap) (iA (cf x y))) (X n : Nat) (l : List Comp) (hn : n = l.length) (h12 : l.length ≤ 12) :
    ∃ u : List Comp, (u.Perm l ∧ u.Pairwise fun a b => ltOf cf b a = false) ∧ PO Tryz.prog 81 [.sl X 0 n, .fn f cap] X (.row 104 2 (l.map (compA false))) (.tup []) (.row 104 2 (u.map (compA false))) := by
  obtain ⟨p1, p2⟩ := insertionSort_holds (lt := ltOf cf) hS l.toArray 0 l.toArray.size (Nat.zero_le _) (Nat.le_refl _)
  have e1 : (UInt64.ofNat n).toNat = n := by rw [UInt64.toNat_ofNat']; omega
  have hlen := len_ps (UInt64.ofNat n) (by rw [e1]; omega)
  rw [e1] at hlen
  have hs := pdqC_small f cap cf hst hf X n (bitsLen n) l.toArray (by simpa using hn) (by simpa using h12)
  obtain ⟨u, hu⟩ : ∃ u, insertionSort (ltOf cf) l.toArray 0 l.toArray.size = u := ⟨_, rfl⟩
  rw [hu] at p1 p2 hs
  refine ⟨u.toList, ⟨by simpa using permIn_list p1, sortedIn_list p1.1.symm p2⟩, ?_⟩
  simp only [List.toList_toArray] at hs
  refine Spec.of (nt := 14) (res := []) Tryz.func81 rfl (by kernel_rfl) rfl rfl rfl fun Sf => ?_
  (repeat (first | (refine AOps.gN ?_; first | (refine AOps.g_callf ?_; first | refine AOps.c1 (h := (hlen ..)) (k := ?_) | refine AOps.o5 (h := (hs ..)) (k := ?_)) | refine AOps.p (W.toUN .i64 n rfl (by omega) (by kernel_rfl) (by kernel_rfl) rfl) rfl ?_) | refine WK ?_ | refine All.i fun X => ?_ | refine AllY.i fun Y => ?_))
  refine retQ_n ?_
  exact Ends.void [(X, _)] ⟨rfl, rfl⟩
theorem cmpI_neg (a b : Int) : cmpI a b < 0 ↔ a < b := by
  unfold cmpI
  split
  · simp; assumption
  · split <;> simp <;> omega
theorem swo_key {α : Type} (key : α → Int) : SWO (ltOf fun x y => cmpI (key x) (key y)) where
  irrefl x := by simp only [ltOf, decide_eq_false_iff_not, cmpI_neg]; omega
  trans x y z h1 h2 := by simp only [ltOf, decide_eq_true_eq, cmpI_neg] at *; omega
  ntrans x y z h1 h2 := by simp only [ltOf, decide_eq_false_iff_not, cmpI_neg] at *; omega
end Go.Proofs.YtkoehhpfjpdkcaaGreat

namespace Go.Proofs.YtkoehhpfjpdkcaaGreat
set_option linter.unusedVariables false
theorem indexFuncC_ps (l : List Comp) (f : FuncId) (cap : List AV) (p : Comp → Bool) (hs : st1s cap = true) (hl : l.length ≤ 4611686018427387904) (hf : ∀ x ∈ l, PS Tryz.prog f ((compA false) x :: cap) (bA (p x))) : PS Tryz.prog 93 [.lst false 104 2 (l.map (compA false)), .fn f cap] (iA (idxF l p)) := by
  refine Spec.of (nt := 19) (res := [.tmp 4]) Tryz.func93 rfl (by kernel_rfl) rfl rfl rfl fun Sf => ?_
  (repeat (first | refine WK ?_ | refine All.i fun X => ?_ | refine AllY.i fun Y => ?_))
  refine AWP.lp (fun i : Nat => ⟨[(0, .lst false 104 2 (l.map (compA false))), (1, .fn f cap), (7, iA (l.map (compA false)).length), (8, iA i)], Sf⟩) (fun i => i ≤ l.length ∧ ∀ j (h : j < l.length), j < i → p l[j] = false) (fun i => l.length - i) 0 ⟨Nat.zero_le _, fun j h hj => absurd hj (by omega)⟩ ?_
  rintro i ⟨hi, he⟩
  (repeat (first | refine WK ?_ | refine All.i fun X => ?_ | refine AllY.i fun Y => ?_))
  refine AWP.cond rfl (fun hc => ?_) (fun hc => ?_)
  · have h : i < l.length := by simpa using hc
    (repeat (first | (refine AOps.gN ?_; first | (refine AOps.g_callv ?_; first | refine AOps.k1 (h := (hf _ (List.getElem_mem h))) (k := ?_))) | refine WK ?_ | refine All.i fun X => ?_ | refine AllY.i fun Y => ?_))
    refine AWP.cond rfl (fun hd => ?_) (fun hd => ?_)
    · (repeat (first | refine WK ?_ | refine All.i fun X => ?_ | refine AllY.i fun Y => ?_))
      (refine AWP.ret ?_; (repeat (first | refine inB_r ?_ | refine andThen_r ?_)); refine retQ_r ?_); refine Ends.ps ?_
      rw [idxF_some h hd fun j hj => he j (by omega) hj]
    · (repeat (first | refine WK ?_ | refine All.i fun X => ?_ | refine AllY.i fun Y => ?_))
      refine lp_next (i + 1) ⟨h, fun j h1 h2 => ?_⟩
      by_cases e : j = i
      · subst e; exact hd
      · exact he j h1 (by omega)
  · have h : ¬ i < l.length := by simpa using hc
    (repeat (first | refine WK ?_ | refine All.i fun X => ?_ | refine AllY.i fun Y => ?_))
    (refine AWP.ret ?_; (repeat (first | refine inB_r ?_ | refine andThen_r ?_)); refine retQ_r ?_); refine Ends.ps ?_
    rw [idxF_none fun j hj => he j hj (by omega)]
end Go.Proofs.YtkoehhpfjpdkcaaGreat

namespace Go.Proofs.YtkoehhpfjpdkcaaGreat
set_option linter.unusedVariables false
theorem containsFuncC_ps (l : List Comp) (f : FuncId) (cap : List AV) (p : Comp → Bool) (hs : st1s cap = true) (hl : l.length ≤ 4611686018427387904) (hf : ∀ x ∈ l, PS Tryz.prog f ((compA false) x :: cap) (bA (p x))) : PS Tryz.prog 78 [.lst false 104 2 (l.map (compA false)), .fn f cap] (bA (l.any p)) := by
  refine Spec.of (nt := 9) (res := [.tmp 4]) Tryz.func78 rfl (by kernel_rfl) rfl rfl rfl fun Sf => ?_
  (repeat (first | (refine AOps.gN ?_; first | (refine AOps.g_callf ?_; first | refine AOps.c2 (h := (indexFuncC_ps l f cap p hs hl hf)) (k := ?_))) | refine WK ?_ | refine All.i fun X => ?_ | refine AllY.i fun Y => ?_))
  (refine AWP.ret ?_; (repeat (first | refine inB_r ?_ | refine andThen_r ?_)); refine retQ_r ?_); refine Ends.ps ?_
  rw [← idxF_any]
end Go.Proofs.YtkoehhpfjpdkcaaGreat

namespace Go.Proofs.YtkoehhpfjpdkcaaGreat
set_option linter.unusedVariables false
open Go.Sort
theorem fit1_ps (o c : Comp) : PS Tryz.prog 79 [compA false o, .fp (compA false c).cells] (bA (decide (o.kind = c.kind))) := by
  refine Spec.of (nt := 9) (res := [.tmp 3]) Tryz.func79 rfl (by kernel_rfl) rfl rfl rfl fun Sf => ?_
  (repeat (first | (refine AOps.gN ?_; first | (refine AOps.g_box ?_; refine AOps.goB ?_)) | refine WK ?_ | refine All.i fun X => ?_ | refine AllY.i fun Y => ?_))
  (refine AWP.ret ?_; (repeat (first | refine inB_r ?_ | refine andThen_r ?_)); refine retQ_r ?_); refine Ends.ps ?_
  rfl
theorem fit2_ps (a b : Comp) : PS Tryz.prog 82 [compA false a, compA false b] (iA (cmpI a.kind b.kind)) := by
  refine Spec.of (nt := 10) (res := [.tmp 4]) Tryz.func82 rfl (by kernel_rfl) rfl rfl rfl fun Sf => ?_
  (repeat (first | (refine AOps.gN ?_; first | (refine AOps.g_callf ?_; first | refine AOps.c2 (h := (compare_ps a.kind b.kind)) (k := ?_)) | (refine AOps.g_box ?_; refine AOps.goB ?_)) | refine WK ?_ | refine All.i fun X => ?_ | refine AllY.i fun Y => ?_))
  (refine AWP.ret ?_; (repeat (first | refine inB_r ?_ | refine andThen_r ?_)); refine retQ_r ?_); refine Ends.ps ?_
  rfl
set_option maxRecDepth 8000 in
set_option maxHeartbeats 2000000 in
theorem wfit_ps (ks : List Kind) (l : List Comp) (h12 : ks.length ≤ 12) (hl : l.length ≤ 1099511627776) : PS Tryz.prog 50 [kindsA false false ks, compsA false false l] (.tup [compsA true false (wFit ks l).1, iA (wFit ks l).2]) := by
  have hck := check_ps ks
  obtain ⟨r, hr⟩ : ∃ r, wFit ks l = r := ⟨_, rfl⟩
  rw [hr]
  unfold wFit at hr
  have hlm : (l.map (compA false)).length = l.length := List.length_map _
  have hkm : (ks.map (kindA false)).length = ks.length := List.length_map _
  refine Spec.of (nt := 64) (res := [.tmp 4, .tmp 5]) Tryz.func50 rfl (by kernel_rfl) rfl rfl rfl fun Sf => ?_
  (repeat (first | (refine AOps.gN ?_; first | (refine AOps.g_callf ?_; first | refine AOps.c1 (h := (hck ..)) (k := ?_))) | refine WK ?_ | refine All.i fun X => ?_ | refine AllY.i fun Y => ?_))
  refine AWP.cond rfl (fun hc => ?_) (fun hc => ?_)
  · have hc : checkErr ks ≠ 0 := by simpa using hc
    rw [if_pos hc] at hr
    subst hr
    (repeat (first | refine WK ?_ | refine All.i fun X => ?_ | refine AllY.i fun Y => ?_))
    (refine AWP.ret ?_; (repeat (first | refine inB_r ?_ | refine andThen_r ?_)); refine retQ_r ?_)
    exact Ends.cv [.prim (.slice none 0 0), iA (checkErr ks)] [compsA true false [], iA (checkErr ks)] (.cons (.cell .nil) (.cons (.cell .same) .nil))
  have hc : checkErr ks = 0 := by simpa using hc
  rw [if_neg (by simp [hc])] at hr
  have hgo := fun h => fitGo_ok (ks := ks) (l := l) (pre := []) (out := []) h (by simp) (by simp) (by simp)
  obtain ⟨g, hg⟩ : ∃ g, fitGo ks [] [] l = g := ⟨_, rfl⟩
  rw [hg] at hr hgo
  (repeat (first | refine WK ?_ | refine All.i fun X => ?_ | refine AllY.i fun Y => ?_))
  refine AWP.adopt (d := 7) 104 2 rfl fun O => ?_
  refine AWP.lp4 (fun (q Y m : Nat) (M : List AV) => ⟨[(0, kindsA false false ks), (1, compsA false false l), (7, .sl Y 0 m), (17, compsA false false l), (18, iA (l.map (compA false)).length), (19, iA q)], (Y, .row 104 2 M) :: Sf⟩) (fun q _ m M => q ≤ l.length ∧ m = M.length ∧ m = q ∧ ∃ out : List Comp, M = out.map (compA false) ∧ fitGo ks (l.take q) out (l.drop q) = g) (fun q _ _ _ => l.length - q) 0 O 0 [] ⟨Nat.zero_le _, rfl, rfl, [], rfl, hg⟩ ?_
  rintro q Y m M ⟨hq, hm, hmq, out, hM, hfold⟩
  (repeat (first | refine WK ?_ | refine All.i fun X => ?_ | refine AllY.i fun Y => ?_))
  refine AWP.cond rfl (fun he => ?_) (fun he => ?_)
  · have h : q < l.length := by rw [decide_eq_true_eq, hlm] at he; omega
    obtain ⟨c, hcq⟩ : ∃ c, l[q] = c := ⟨_, rfl⟩
    have hat : (l.map (compA false))[q]? = some (compA false c) := by rw [List.getElem?_map, List.getElem?_eq_getElem h, hcq]; rfl
    rw [List.drop_eq_getElem_cons h, hcq, fitGo] at hfold
    have hcf := containsFuncC_ps (l.take q) 79 [.fp (compA false c).cells] (fun o => decide (o.kind = c.kind)) rfl (by rw [List.length_take]; omega) (fun o _ => fit1_ps o c)
    obtain ⟨ck, cv⟩ := c
    dsimp only at hfold hcf
    rw [List.map_take] at hcf
    (repeat (first | refine WK ?_ | refine All.i fun V => ?_ | refine AllY.i fun Y => ?_))
    refine AWP.cond rfl (fun hd => ?_) (fun hd => ?_)
    · have hb : ck < 0 ∨ (ks.length : Int) ≤ ck := by simpa using hd
      rw [if_pos hb] at hfold
      subst hfold
      rw [if_pos (by decide)] at hr
      subst hr
      (repeat (first | refine WK ?_ | refine All.i fun X => ?_ | refine AllY.i fun Y => ?_))
      (refine AWP.ret ?_; (repeat (first | refine inB_r ?_ | refine andThen_r ?_)); refine retQ_r ?_)
      exact Ends.cv [.prim (.slice none 0 0), iA 1] [compsA true false [], iA 1] (.cons (.cell .nil) (.cons (.cell .same) .nil))
    have hb : ¬ (ck < 0 ∨ (ks.length : Int) ≤ ck) := by simpa using hd
    rw [if_neg hb] at hfold
    obtain ⟨j, hj⟩ : ∃ j : Nat, ck = j := ⟨ck.toNat, by omega⟩
    subst hj
    have hjl : j < ks.length := by omega
    rw [Int.toNat_natCast, List.getElem?_eq_getElem hjl] at hfold
    obtain ⟨k, hk⟩ : ∃ k, ks[j] = k := ⟨_, rfl⟩
    rw [hk] at hfold
    dsimp only at hfold
    have hatk : (ks.map (kindA false))[j]? = some (kindA false k) := by rw [List.getElem?_map, List.getElem?_eq_getElem hjl, hk]; rfl
    have hft := fit_ps k cv
    refine AWP.iceP [9] (X := V) (by exact At.f) (b := compA false ⟨j, cv⟩) (hf := ⟨by show (AV.agg [iA (j : Int), intsA false cv]).frz = _; exact Frz.h⟩) ?_ (by intro d hd; simp only [List.mem_singleton] at hd; subst hd; rfl)
    (repeat (first | (refine AOps.gN ?_; first | (refine AOps.g_callf ?_; first | refine AOps.c2 (h := (hcf ..)) (k := ?_)) | refine AOps.p (W.hiL rfl rfl rfl (by rw [hlm]; exact hq)) rfl ?_) | refine WK ?_ | refine All.i fun X => ?_ | refine AllY.i fun Y => ?_))
    refine AWP.cond rfl (fun hd2 => ?_) (fun hd2 => ?_)
    · rw [if_pos hd2] at hfold
      subst hfold
      rw [if_pos (by decide)] at hr
      subst hr
      (repeat (first | refine WK ?_ | refine All.i fun X => ?_ | refine AllY.i fun Y => ?_))
      (refine AWP.ret ?_; (repeat (first | refine inB_r ?_ | refine andThen_r ?_)); refine retQ_r ?_)
      exact Ends.cv [.prim (.slice none 0 0), iA 5] [compsA true false [], iA 5] (.cons (.cell .nil) (.cons (.cell .same) .nil))
    rw [if_neg (by simp [hd2])] at hfold
    (repeat refine WF ?_); refine AWP.region_run (by kernel_rfl) (by kernel_rfl) ?_; (repeat (first | (refine RGo.gN ?_; first | refine RGo.c2 (h := hft) (k := ?_)) | (refine RGo.gQ ?_; first | refine RGo.c2 (h := hft) (k := ?_)) | refine RK ?_ | refine RGo.nil (by kernel_rfl) ?_))
    (repeat (first | refine WK ?_ | refine All.i fun X => ?_ | refine AllY.i fun Y => ?_))
    refine AWP.cond rfl (fun hd3 => ?_) (fun hd3 => ?_)
    · have hd3 : (fitOf k cv).2 ≠ 0 := by simpa using hd3
      rw [if_pos hd3] at hfold
      subst hfold
      rw [if_pos hd3] at hr
      subst hr
      (repeat (first | refine WK ?_ | refine All.i fun X => ?_ | refine AllY.i fun Y => ?_))
      (refine AWP.ret ?_; (repeat (first | refine inB_r ?_ | refine andThen_r ?_)); refine retQ_r ?_)
      exact Ends.cv [.prim (.slice none 0 0), iA _] [compsA true false [], iA _] (.cons (.cell .nil) (.cons (.cell .same) .nil))
    have hd3 : (fitOf k cv).2 = 0 := by simpa using hd3
    rw [if_neg (by simp [hd3])] at hfold
    have hm1 : m + 1 ≤ 1099511627776 := by omega
    (repeat (first | (refine AOps.gN ?_; first | (refine AOps.g_lit ?_; refine AOps.goL (compA false ⟨j, (fitOf k cv).1⟩) ?_)) | refine WK ?_ | refine All.i fun X => ?_ | refine AllY.i fun Y => ?_))
    refine lp_next4 (q + 1) Y (m + 1) (M ++ [compA false ⟨j, (fitOf k cv).1⟩]) ⟨h, by rw [List.length_append, hm]; rfl, by omega, out ++ [⟨j, (fitOf k cv).1⟩], by rw [hM, List.map_append]; rfl, ?_⟩
    rw [List.take_succ_eq_append_getElem h, hcq]
    exact hfold
  · have h : q = l.length := by rw [decide_eq_false_iff_not, hlm] at he; omega
    rw [h, List.take_length, List.drop_length, fitGo] at hfold
    subst hfold
    dsimp only at hr hgo
    rw [if_neg (by simp)] at hr
    subst hr
    obtain ⟨hg1, hg2⟩ := hgo rfl
    have hlen : out.length ≤ 12 := Nat.le_trans (nodup_le Comp.kind _ _ hg1 hg2) h12
    obtain ⟨u, ⟨hu1, hu2⟩, hsf⟩ := sortFuncC_sp 82 [] (fun x y => cmpI x.kind y.kind) rfl (swo_key Comp.kind) (fun x y => fit2_ps x y) Y m out (by rw [hm, hM, List.length_map]) hlen
    rw [← hM] at hsf
    (repeat (first | (refine AOps.gN ?_; first | (refine AOps.g_callf ?_; first | refine AOps.o2 (h := (hsf ..)) (k := ?_))) | refine WK ?_ | refine All.i fun X => ?_ | refine AllY.i fun Y => ?_))
    have hu : u = kSort out := kSort_uniq hg1 hu1 (hu2.imp fun {a b} hab => by simp only [ltOf, decide_eq_false_iff_not, cmpI_neg] at hab; omega)
    have hul : m = (u.map (compA false)).length := by rw [hm, hM, List.length_map, List.length_map, hu1.length_eq]
    (refine AWP.ret ?_; (repeat (first | refine inB_r ?_ | refine andThen_r ?_)); refine retQ_r ?_)
    rw [← hu]
    exact Ends.cv [.sl Y 0 m, iA 0] [compsA true false u, iA 0] (.cons (.cell (.sl (p := 0) .here hul)) (.cons (.cell .same) .nil))
end Go.Proofs.YtkoehhpfjpdkcaaGreat

namespace Go.Proofs.YtkoehhpfjpdkcaaGreat
set_option linter.unusedVariables false
/-- The objects of a runner. -/
def runS (ks : List Kind) (s : Sys) (e : Ent) (index : Int) (X C K E : Nat) (st : Rn) : List Slot :=
  [(X, runO ks s e C st.comps.length st.r K st.cmds.length E st.evs.length index), (C, .row 104 2 (st.comps.map (compA true))), (K, .row 58 5 (st.cmds.map cmdA)), (E, .row 54 4 (st.evs.map evtA))]
/-- What a runner keeps. -/
structure RnOK (ks : List Kind) (s : Sys) (st : Rn) : Prop where
  held : heldOf ks st.comps = true
  has : HasK s st.comps
  odd : st.r.2.toNat % 2 = 1
  cmds : st.cmds.length ≤ 1099511627775
  evs : st.evs.length ≤ 1099511627775
theorem runner_ld (ks : List Kind) (s : Sys) (e : Ent) (index : Int) (X C K E : Nat) (st : Rn) (Sf : List Slot) : Ld (runS ks s e index X C K E st ++ Sf) (.ptr X 0 0) (.fp (runA ks s e (compsA false false st.comps) st.r (.sl K 0 st.cmds.length) (.sl E 0 st.evs.length) index).cells) := by
  refine .ptr .here (b := runA ks s e (compsA false false st.comps) st.r (.sl K 0 st.cmds.length) (.sl E 0 st.evs.length) index) (.agg ?_) rfl
  refine .cons .fz (.cons .fz (.cons .fz (.cons .fz (.cons .fz (.cons .fz (.cons .fz (.cons .fz (.cons .fz (.cons .fz (.cons ?_ (.cons .fz (.cons .fz (.cons .frz (.cons .frz (.cons .fz .nil)))))))))))))))
  exact Ld.rowL Lds.fz (.next .here) (by simp)
set_option maxRecDepth 8000 in
set_option maxHeartbeats 4000000 in
theorem do_sp (ks : List Kind) (s : Sys) (e : Ent) (index : Int) (X C K E : Nat) (st : Rn) (o : Op) (hk : checkErr ks = 0) (h12 : ks.length ≤ 12) (hsp : s.spawn.length ≤ 1099511627776) (hst : RnOK ks s st) (ho : OpG ks s.reads s.writes o) :
    Spec Tryz.prog 27 [.ptr X 0 0, opA o] (runS ks s e index X C K E st) fun r' S' => ∃ b : Nat × Nat, r' = .tup [] ∧ S' = runS ks s e index X C b.1 b.2 (doM ks s index e o st) := by
  obtain ⟨hh, hhas, hodd, hcl, hel⟩ := hst
  obtain ⟨cs, r, cm, ev⟩ := st
  dsimp only at hh hhas hodd hcl hel
  obtain ⟨h16, _⟩ := held_small hk hh
  obtain ⟨a1, a2, a3⟩ := arg_ok hh hhas ho.a
  obtain ⟨b1, b2, b3⟩ := arg_ok hh hhas ho.b
  have hA := arg_ps ks s e cs r K cm.length E ev.length index o.a (by omega) a1
  have hB := arg_ps ks s e cs r K cm.length E ev.length index o.b (by omega) b1
  have hs := sets_ps o.act
  obtain ⟨act, ⟨tk, tf⟩, oa, ob⟩ := o
  dsimp only at a1 a2 a3 b1 b2 b3 hA hB hs
  obtain ⟨av, hav⟩ : ∃ v, argV cs oa = v := ⟨_, rfl⟩
  obtain ⟨bv, hbv⟩ : ∃ v, argV cs ob = v := ⟨_, rfl⟩
  obtain ⟨res, hres⟩ : ∃ res, doM ks s index e ⟨act, ⟨tk, tf⟩, oa, ob⟩ ⟨cs, r, cm, ev⟩ = res := ⟨_, rfl⟩
  rw [hres]
  unfold doM at hres
  dsimp only at hres
  rw [hav] at hA a2 a3 hres
  rw [hbv] at hB b2 b3 hres
  refine Spec.of (nt := 137) (res := []) Tryz.func27 rfl (by kernel_rfl) rfl rfl rfl fun Sf => ?_
  (repeat refine WF ?_); refine AWP.region ?_; (repeat (first | (refine AOps.gN ?_; first | (refine AOps.g_box ?_; refine AOps.goB ?_)) | refine WO ?_ | refine All.i fun X => ?_ | refine AllY.i fun Y => ?_)); refine AOps.nil ?_; (repeat refine WN ?_)
  have hAl := PS.lend (S := runS ks s e index X C K E ⟨cs, r, cm, ev⟩) (args' := [.ptr X 0 0, argA oa]) hA rfl (.cons (by have := runner_ld ks s e index X C K E ⟨cs, r, cm, ev⟩ []; rwa [List.append_nil] at this) (.cons .fz .nil))
  have hBl := PS.lend (S := runS ks s e index X C K E ⟨cs, r, cm, ev⟩) (args' := [.ptr X 0 0, argA ob]) hB rfl (.cons (by have := runner_ld ks s e index X C K E ⟨cs, r, cm, ev⟩ []; rwa [List.append_nil] at this) (.cons .fz .nil))
  unfold runS at hAl hBl ⊢
  dsimp only at hAl hBl ⊢
  (repeat refine WF ?_); refine AWP.region_run (by kernel_rfl) (by kernel_rfl) ?_; (repeat (first | (refine RGo.gN ?_; first | refine RGo.z2 (h := hAl) (hT := .fz) (k := ?_) | refine RGo.z2 (h := hBl) (hT := .fz) (k := ?_)) | (refine RGo.gQ ?_; first | refine RGo.z2 (h := hAl) (hT := .fz) (k := ?_) | refine RGo.z2 (h := hBl) (hT := .fz) (k := ?_)) | refine RK ?_ | refine RGo.nil (by kernel_rfl) ?_))
  (repeat first | refine AOps.nil ?_ | refine WF ?_)
  by_cases hsb : setsB act = true
  · rw [if_pos hsb] at hres
    rw [hsb] at hs
    obtain ⟨hR, hW⟩ := ho.sets hsb
    dsimp only at hR hW
    have h07 : 0 ≤ act ∧ act ≤ 7 := by unfold setsB at hsb; simpa using hsb
    obtain ⟨c, k, e1, e2, e3, e4, e5, e6, e7⟩ := ref_comp hh hhas hR (.inr hW)
    dsimp only at e1 e2 e3 e5 e6
    have hso := (held_iff.1 hh).1
    obtain ⟨g1, g2⟩ := setV_at hso e1 tf.toNat (nearOf (fieldOf ks ⟨tk, tf⟩) (valueV act av bv r).1)
    have hvp := value_po ks s e C cs.length r K cm.length E ev.length index X act av bv h07.1 h07.2 ⟨a2, a3⟩ ⟨b2, b3⟩ hodd
    obtain ⟨⟨nv, r2⟩, hnv⟩ : ∃ p, valueV act av bv r = p := ⟨_, rfl⟩
    rw [hnv] at hvp hres g2
    obtain ⟨f, hf⟩ : ∃ f, fieldOf ks ⟨tk, tf⟩ = f := ⟨_, rfl⟩
    rw [hf] at g2 hres
    have hnp := near_ps f nv
    obtain ⟨j, hj⟩ : ∃ j, compAt cs tk = j := ⟨_, rfl⟩
    rw [hj] at g1 g2
    obtain ⟨ti, rfl⟩ : ∃ i : Nat, tk = i := ⟨tk.toNat, by have := hR.1; dsimp only at this; omega⟩
    obtain ⟨tj, rfl⟩ : ∃ i : Nat, tf = i := ⟨tf.toNat, by omega⟩
    rw [Int.toNat_natCast] at g2 e3
    have hfe : k.fields[tj]? = some f := by
      rw [← hf]
      unfold fieldOf
      dsimp only
      rw [Int.toNat_natCast, Int.toNat_natCast, e3]
      dsimp only
      rw [List.getD_eq_getElem?_getD, List.getElem?_eq_getElem (by omega)]
      rfl
    obtain ⟨ck, cv⟩ := c
    dsimp only at e2 e4 e7 g2
    subst e2
    have hvs := fun V => valsO_sp ks s e cs r K cm.length E ev.length index X C V j ⟨ti, cv⟩ hso g1 (by omega)
    obtain ⟨kn, fs⟩ := k
    dsimp only at e6 e7 hfe
    have hatk : (ks.map (kindA false))[ti]? = some (kindA false ⟨kn, fs⟩) := by rw [List.getElem?_map, e3]; rfl
    have hatf : (fs.map fieldA)[tj]? = some (fieldA f) := by rw [List.getElem?_map, hfe]; rfl
    have hatc : (cs.map (compA true))[j]? = some (compA true ⟨ti, cv⟩) := by rw [List.getElem?_map, g1]; rfl
    have hjm : j < (cs.map (compA true)).length := by rw [List.length_map]; exact (List.getElem?_eq_some_iff.1 g1).1
    have hvl : tj < (cv.map iA).length := by rw [List.length_map]; omega
    have hatv : (cv.map iA)[tj]? = some (iA cv[tj]) := by rw [List.getElem?_map, List.getElem?_eq_getElem (by rw [List.length_map] at hvl; exact hvl)]; rfl
    (repeat refine WF ?_); refine AWP.region ?_; (repeat (first | (refine AOps.gN ?_; first | (refine AOps.g_callf ?_; first | refine AOps.c1 (h := (hs ..)) (k := ?_))) | refine WO ?_ | refine All.i fun X => ?_ | refine AllY.i fun Y => ?_)); refine AOps.nil ?_; (repeat refine WN ?_)
    refine AWP.cond_t rfl rfl ?_
    (repeat first | refine AOps.nil ?_ | refine WF ?_)
    refine AWP.thawIn (Y := C) (by exact At.f) (fun _ => Hos.at hatc (.agg (.tail (.head .here)))) fun V => ?_
    have hvs1 := hvs V
    unfold rowV at hvs1
    dsimp only at hvs1
    (repeat first | refine AOps.nil ?_ | refine WF ?_)
    refine AWP.region_runJ (JP 1 (X, runO ks s e C cs.length r K cm.length E ev.length index) (X, runO ks s e C cs.length r2 K cm.length E ev.length index)) (by kernel_rfl) (by kernel_rfl) ?_ ?_
    · exact .inl rfl
    iterate 4 refine RGoJ.go ?_
    refine RGoJ.s ?_ (W.callZ2 rfl rfl hvs1 .fz (by exact Pos.f) rfl rfl) rfl ?_
    · exact fun S hS => JP.ne (by decide) _ (JP.set1 _ hS)
    iterate 4 refine RGoJ.go ?_
    refine RGoJ.soft (S1 := [(0, .gone), (X, runO ks s e C cs.length r K cm.length E ev.length index)]) (S2 := [(0, .gone), (X, runO ks s e C cs.length r2 K cm.length E ev.length index)]) (by exact Stp.f0) (by exact Stp.f0) rfl ?_
    iterate 2 refine RGoJ.soft (S1 := [(0, .gone), (X, runO ks s e C cs.length r K cm.length E ev.length index)]) (S2 := [(0, .gone), (X, runO ks s e C cs.length r2 K cm.length E ev.length index)]) (by exact Stp.f0) (by exact Stp.f0) rfl ?_
    iterate 16 refine RGoJ.go ?_
    refine RGoJ.s JP.set2 (W.callO4 rfl rfl rfl rfl (by exact At.f) hvp rfl (Frz.h)) rfl ?_
    refine RGoJ.p (W.callF2 rfl rfl hnp rfl (Frz.h)) rfl ?_
    refine RGoJ.go ?_
    refine RGoJ.s ?_ (by exact Stp.st) rfl ?_
    · exact JP.ne (by decide)
    refine RGoJ.nil (by kernel_rfl) ?_
    (repeat first | refine AOps.nil ?_ | refine WF ?_)
    refine AWP.closeIn (X := V) (Y := C) (by exact At.f) (by exact At.f) rfl (by simp) (Hos.at (List.getElem?_set_self hjm) (.agg (.tail (.head .here)))) ?_
    (refine AWP.ret ?_; (repeat (first | refine inB_r ?_ | refine andThen_r ?_)); refine retQ_r ?_)
    refine Ends.void [(X, _), (C, _), (K, _), (E, _)] ⟨(K, E), rfl, ?_⟩
    rw [← hres, Int.toNat_natCast, g2]
    dsimp only
    have hce : compA true ⟨ti, cv.set tj (nearOf f nv)⟩ = .agg [iA ti, .lst true 3 1 ((cv.map iA).set tj (iA (nearOf f nv)))] := by
      unfold compA intsA
      rw [List.map_set]
    rw [List.length_set, List.map_set, List.set_set, hce]
  · have hsf : setsB act = false := by simpa using hsb
    rw [if_neg hsb] at hres
    rw [hsf] at hs
    have h8 : act = 8 ∨ act = 9 ∨ act = 10 ∨ act = 11 ∨ act = 12 := by
      have h1 : 0 ≤ act := ho.lo
      have h2 : act ≤ 12 := ho.hi
      unfold setsB at hsf
      simp at hsf
      omega
    (repeat refine WF ?_); refine AWP.region ?_; (repeat (first | (refine AOps.gN ?_; first | (refine AOps.g_callf ?_; first | refine AOps.c1 (h := (hs ..)) (k := ?_))) | refine WO ?_ | refine All.i fun X => ?_ | refine AllY.i fun Y => ?_)); refine AOps.nil ?_; (repeat refine WN ?_)
    refine AWP.cond_f rfl rfl ?_
    (repeat (first | refine WK ?_ | refine All.i fun X => ?_ | refine AllY.i fun Y => ?_))
    by_cases hz : av = 0
    · refine AWP.cond_t rfl (decide_eq_true hz) ?_
      rw [if_pos hz] at hres
      (repeat (first | refine WK ?_ | refine All.i fun X => ?_ | refine AllY.i fun Y => ?_))
      (refine AWP.ret ?_; (repeat (first | refine inB_r ?_ | refine andThen_r ?_)); refine retQ_r ?_)
      refine Ends.void [(X, _), (C, _), (K, _), (E, _)] ⟨(K, E), rfl, ?_⟩
      rw [← hres]
    · refine AWP.cond_f rfl (decide_eq_false hz) ?_
      rw [if_neg hz] at hres
      rcases h8 with rfl | rfl | rfl | rfl | rfl
      · obtain ⟨p1, p2, p3⟩ := ho.puts (.inl rfl)
        dsimp only at p1 p2 p3
        obtain ⟨ti, rfl⟩ : ∃ i : Nat, tk = i := ⟨tk.toNat, by omega⟩
        have hkl : ti < ks.length := by omega
        have hatk : (ks.map (kindA false))[ti]? = some (kindA false ks[ti]) := by rw [List.getElem?_map, List.getElem?_eq_getElem hkl]; rfl
        obtain ⟨kn, hkn⟩ : ∃ x, ks[ti] = x := ⟨_, rfl⟩
        have hfl : kn.fields.length ≤ 1099511627776 := by have h8 := oneErr_len ((checkErr_one hk).2 _ (List.getElem_mem hkl)); rw [hkn] at h8; omega
        rw [hkn] at hatk
        have hdo : defOf ks ti = (fitOf kn (List.replicate kn.fields.length 0)).1 := by
          unfold defOf
          rw [Int.toNat_natCast, List.getElem?_eq_getElem hkl, hkn]
        have hdf := default_ps kn hfl
        (repeat (first | refine WK ?_ | refine All.i fun B => ?_ | refine AllY.i fun Y => ?_))
        refine AWP.cond_t rfl rfl ?_
        (repeat refine WF ?_); refine AWP.region_run (by kernel_rfl) (by kernel_rfl) ?_; (repeat (first | (refine RGo.gN ?_; first | refine RGo.c1 (h := hdf) (k := ?_)) | (refine RGo.gQ ?_; first | refine RGo.c1 (h := hdf) (k := ?_)) | refine RK ?_ | refine RGo.nil (by kernel_rfl) ?_))
        (repeat first | refine AOps.nil ?_ | refine WF ?_)
        refine AWP.frzRow B [cmdA ⟨0, e, 0, [⟨ti, (fitOf kn (List.replicate kn.fields.length 0)).1⟩]⟩] ?_ ?_ (by exact At.f)
        · exact (show AV.frzs [cmdA ⟨0, e, 0, [⟨ti, (fitOf kn (List.replicate kn.fields.length 0)).1⟩]⟩] = [cmdA ⟨0, e, 0, [⟨ti, (fitOf kn (List.replicate kn.fields.length 0)).1⟩]⟩] from congrArg (· :: []) Frz.h)
        refine AWP.rs fun K2 => ?_
        (repeat refine WF ?_); refine AWP.region_run (by kernel_rfl) (by kernel_rfl) ?_; (repeat (first | refine RK ?_ | refine RGo.nil (by kernel_rfl) ?_))
        refine retQ_n ?_
        refine Ends.void [(X, _), (C, _), (K2, _), (E, _)] ⟨(K2, E), rfl, ?_⟩
        rw [if_neg (by decide), if_pos rfl, hdo] at hres
        rw [← hres]
        dsimp only
        rw [List.length_append, List.map_append]
        rfl
      · (repeat (first | refine WK ?_ | refine All.i fun B => ?_ | refine AllY.i fun Y => ?_))
        refine AWP.cond_f rfl rfl ?_
        (repeat (first | refine WK ?_ | refine All.i fun X => ?_ | refine AllY.i fun Y => ?_))
        refine AWP.cond_t rfl rfl ?_
        (repeat refine WF ?_); refine AWP.region_run (by kernel_rfl) (by kernel_rfl) ?_; (repeat (first | refine RK ?_ | refine RGo.nil (by kernel_rfl) ?_))
        (repeat first | refine AOps.nil ?_ | refine WF ?_)
        refine AWP.nilIn 104 2 (Y := B) (.cons (.agg (.cons .same (.cons .same (.cons .same (.cons .same (.cons (.base .nil) .nil)))))) .nil) ?_
        refine AWP.frzRow B [cmdA ⟨1, e, tk, []⟩] ?_ ?_ (by exact At.f)
        · exact (show AV.frzs [cmdA ⟨1, e, tk, []⟩] = [cmdA ⟨1, e, tk, []⟩] from congrArg (· :: []) Frz.h)
        refine AWP.rs fun K2 => ?_
        (repeat refine WF ?_); refine AWP.region_run (by kernel_rfl) (by kernel_rfl) ?_; (repeat (first | refine RK ?_ | refine RGo.nil (by kernel_rfl) ?_))
        refine retQ_n ?_
        refine Ends.void [(X, _), (C, _), (K2, _), (E, _)] ⟨(K2, E), rfl, ?_⟩
        rw [if_neg (by decide), if_neg (by decide), if_pos rfl] at hres
        rw [← hres]
        dsimp only
        rw [List.length_append, List.map_append]
        rfl
      · (repeat (first | refine WK ?_ | refine All.i fun B => ?_ | refine AllY.i fun Y => ?_))
        refine AWP.cond_f rfl rfl ?_
        (repeat (first | refine WK ?_ | refine All.i fun X => ?_ | refine AllY.i fun Y => ?_))
        refine AWP.cond_f rfl rfl ?_
        (repeat (first | refine WK ?_ | refine All.i fun X => ?_ | refine AllY.i fun Y => ?_))
        refine AWP.cond_t rfl rfl ?_
        (repeat (first | refine WK ?_ | refine All.i fun X => ?_ | refine AllY.i fun Y => ?_))
        refine AWP.nilIn 104 2 (Y := B) (.cons (.agg (.cons .same (.cons .same (.cons .same (.cons .same (.cons (.base .nil) .nil)))))) .nil) ?_
        refine AWP.frzRow B [cmdA ⟨2, e, 0, []⟩] ?_ ?_ (by exact At.f)
        · exact (show AV.frzs [cmdA ⟨2, e, 0, []⟩] = [cmdA ⟨2, e, 0, []⟩] from congrArg (· :: []) Frz.h)
        refine AWP.rs fun K2 => ?_
        (repeat refine WF ?_); refine AWP.region_run (by kernel_rfl) (by kernel_rfl) ?_; (repeat (first | refine RK ?_ | refine RGo.nil (by kernel_rfl) ?_))
        refine retQ_n ?_
        refine Ends.void [(X, _), (C, _), (K2, _), (E, _)] ⟨(K2, E), rfl, ?_⟩
        rw [if_neg (by decide), if_neg (by decide), if_neg (by decide), if_pos rfl] at hres
        rw [← hres]
        dsimp only
        rw [List.length_append, List.map_append]
        rfl
      · have hfp := wfit_ps ks s.spawn h12 hsp
        (repeat (first | refine WK ?_ | refine All.i fun B => ?_ | refine AllY.i fun Y => ?_))
        refine AWP.cond_f rfl rfl ?_
        (repeat (first | refine WK ?_ | refine All.i fun X => ?_ | refine AllY.i fun Y => ?_))
        refine AWP.cond_f rfl rfl ?_
        (repeat (first | refine WK ?_ | refine All.i fun X => ?_ | refine AllY.i fun Y => ?_))
        refine AWP.cond_f rfl rfl ?_
        (repeat (first | refine WK ?_ | refine All.i fun X => ?_ | refine AllY.i fun Y => ?_))
        refine AWP.cond_t rfl rfl ?_
        (repeat refine WF ?_); refine AWP.region_run (by kernel_rfl) (by kernel_rfl) ?_; (repeat (first | (refine RGo.gN ?_; first | refine RGo.c2 (h := hfp) (k := ?_)) | (refine RGo.gQ ?_; first | refine RGo.c2 (h := hfp) (k := ?_)) | refine RK ?_ | refine RGo.nil (by kernel_rfl) ?_))
        (repeat (first | refine WK ?_ | refine All.i fun X => ?_ | refine AllY.i fun Y => ?_))
        refine AWP.frzRow B [cmdA ⟨3, ⟨0, 0⟩, 0, (wFit ks s.spawn).1⟩] ?_ ?_ (by exact At.f)
        · exact (show AV.frzs [cmdA ⟨3, ⟨0, 0⟩, 0, (wFit ks s.spawn).1⟩] = [cmdA ⟨3, ⟨0, 0⟩, 0, (wFit ks s.spawn).1⟩] from congrArg (· :: []) Frz.h)
        refine AWP.rs fun K2 => ?_
        (repeat refine WF ?_); refine AWP.region_run (by kernel_rfl) (by kernel_rfl) ?_; (repeat (first | refine RK ?_ | refine RGo.nil (by kernel_rfl) ?_))
        refine retQ_n ?_
        refine Ends.void [(X, _), (C, _), (K2, _), (E, _)] ⟨(K2, E), rfl, ?_⟩
        rw [if_neg (by decide), if_neg (by decide), if_neg (by decide), if_neg (by decide)] at hres
        rw [← hres]
        dsimp only
        rw [List.length_append, List.map_append]
        rfl
      · (repeat (first | refine WK ?_ | refine All.i fun B => ?_ | refine AllY.i fun Y => ?_))
        refine AWP.cond_f rfl rfl ?_
        (repeat (first | refine WK ?_ | refine All.i fun X => ?_ | refine AllY.i fun Y => ?_))
        refine AWP.cond_f rfl rfl ?_
        (repeat (first | refine WK ?_ | refine All.i fun X => ?_ | refine AllY.i fun Y => ?_))
        refine AWP.cond_f rfl rfl ?_
        (repeat (first | refine WK ?_ | refine All.i fun X => ?_ | refine AllY.i fun Y => ?_))
        refine AWP.cond_f rfl rfl ?_
        refine AWP.rs fun E2 => ?_
        (repeat refine WF ?_); refine AWP.region_run (by kernel_rfl) (by kernel_rfl) ?_; (repeat (first | (refine RGo.gN ?_; first | (refine RGo.g_lit ?_; refine RGo.goL (evtA ⟨index, e, bv⟩) ?_)) | (refine RGo.gQ ?_; first | (refine RGo.g_lit ?_; refine RGo.goL (evtA ⟨index, e, bv⟩) ?_)) | refine RK ?_ | refine RGo.nil (by kernel_rfl) ?_))
        (refine AWP.ret ?_; (repeat (first | refine inB_r ?_ | refine andThen_r ?_)); refine retQ_r ?_)
        refine Ends.void [(X, _), (C, _), (K, _), (E2, _)] ⟨(K, E2), rfl, ?_⟩
        rw [if_pos rfl] at hres
        rw [← hres]
        dsimp only
        rw [List.length_append, List.map_append]
        rfl
end Go.Proofs.YtkoehhpfjpdkcaaGreat

namespace Go.Proofs.YtkoehhpfjpdkcaaGreat
set_option linter.unusedVariables false
theorem indexFuncI_ps (l : List Int) (f : FuncId) (cap : List AV) (p : Int → Bool) (hs : st1s cap = true) (hl : l.length ≤ 4611686018427387904) (hf : ∀ x ∈ l, PS Tryz.prog f (iA x :: cap) (bA (p x))) : PS Tryz.prog 75 [.lst false 3 1 (l.map iA), .fn f cap] (iA (idxF l p)) := by
  refine Spec.of (nt := 19) (res := [.tmp 4]) Tryz.func75 rfl (by kernel_rfl) rfl rfl rfl fun Sf => ?_
  (repeat (first | refine WK ?_ | refine All.i fun X => ?_ | refine AllY.i fun Y => ?_))
  refine AWP.lp (fun i : Nat => ⟨[(0, .lst false 3 1 (l.map iA)), (1, .fn f cap), (7, iA (l.map iA).length), (8, iA i)], Sf⟩) (fun i => i ≤ l.length ∧ ∀ j (h : j < l.length), j < i → p l[j] = false) (fun i => l.length - i) 0 ⟨Nat.zero_le _, fun j h hj => absurd hj (by omega)⟩ ?_
  rintro i ⟨hi, he⟩
  (repeat (first | refine WK ?_ | refine All.i fun X => ?_ | refine AllY.i fun Y => ?_))
  refine AWP.cond rfl (fun hc => ?_) (fun hc => ?_)
  · have h : i < l.length := by simpa using hc
    (repeat (first | (refine AOps.gN ?_; first | (refine AOps.g_callv ?_; first | refine AOps.k1 (h := (hf _ (List.getElem_mem h))) (k := ?_))) | refine WK ?_ | refine All.i fun X => ?_ | refine AllY.i fun Y => ?_))
    refine AWP.cond rfl (fun hd => ?_) (fun hd => ?_)
    · (repeat (first | refine WK ?_ | refine All.i fun X => ?_ | refine AllY.i fun Y => ?_))
      (refine AWP.ret ?_; (repeat (first | refine inB_r ?_ | refine andThen_r ?_)); refine retQ_r ?_); refine Ends.ps ?_
      rw [idxF_some h hd fun j hj => he j (by omega) hj]
    · (repeat (first | refine WK ?_ | refine All.i fun X => ?_ | refine AllY.i fun Y => ?_))
      refine lp_next (i + 1) ⟨h, fun j h1 h2 => ?_⟩
      by_cases e : j = i
      · subst e; exact hd
      · exact he j h1 (by omega)
  · have h : ¬ i < l.length := by simpa using hc
    (repeat (first | refine WK ?_ | refine All.i fun X => ?_ | refine AllY.i fun Y => ?_))
    (refine AWP.ret ?_; (repeat (first | refine inB_r ?_ | refine andThen_r ?_)); refine retQ_r ?_); refine Ends.ps ?_
    rw [idxF_none fun j hj => he j hj (by omega)]
end Go.Proofs.YtkoehhpfjpdkcaaGreat

namespace Go.Proofs.YtkoehhpfjpdkcaaGreat
set_option linter.unusedVariables false
theorem containsFuncI_ps (l : List Int) (f : FuncId) (cap : List AV) (p : Int → Bool) (hs : st1s cap = true) (hl : l.length ≤ 4611686018427387904) (hf : ∀ x ∈ l, PS Tryz.prog f (iA x :: cap) (bA (p x))) : PS Tryz.prog 45 [.lst false 3 1 (l.map iA), .fn f cap] (bA (l.any p)) := by
  refine Spec.of (nt := 9) (res := [.tmp 4]) Tryz.func45 rfl (by kernel_rfl) rfl rfl rfl fun Sf => ?_
  (repeat (first | (refine AOps.gN ?_; first | (refine AOps.g_callf ?_; first | refine AOps.c2 (h := (indexFuncI_ps l f cap p hs hl hf)) (k := ?_))) | refine WK ?_ | refine All.i fun X => ?_ | refine AllY.i fun Y => ?_))
  (refine AWP.ret ?_; (repeat (first | refine inB_r ?_ | refine andThen_r ?_)); refine retQ_r ?_); refine Ends.ps ?_
  rw [← idxF_any]
end Go.Proofs.YtkoehhpfjpdkcaaGreat

namespace Go.Proofs.YtkoehhpfjpdkcaaGreat
set_option linter.unusedVariables false
def hasK (cs : List Comp) (k : Int) : Bool := cs.any fun c => decide (c.kind = k)
def matchOf (it : Item) (wth wout : List Int) : Bool := !(wth.any fun k => !hasK it.comps k) && !(wout.any fun k => hasK it.comps k)
theorem match11_ps (c : Comp) (k : Int) : PS Tryz.prog 87 [compA false c, .fp [iA k]] (bA (decide (c.kind = k))) := by
  refine Spec.of (nt := 8) (res := [.tmp 3]) Tryz.func87 rfl (by kernel_rfl) rfl rfl rfl fun Sf => ?_
  (repeat (first | (refine AOps.gN ?_; first | (refine AOps.g_box ?_; refine AOps.goB ?_)) | refine WK ?_ | refine All.i fun X => ?_ | refine AllY.i fun Y => ?_))
  (refine AWP.ret ?_; (repeat (first | refine inB_r ?_ | refine andThen_r ?_)); refine retQ_r ?_); refine Ends.ps ?_
  rfl
theorem match1_ps (it : Item) (k : Int) (hl : it.comps.length ≤ 4611686018427387904) : PS Tryz.prog 86 [iA k, .fp (itemA false it).cells] (bA (hasK it.comps k)) := by
  refine Spec.of (nt := 8) (res := [.tmp 3]) Tryz.func86 rfl (by kernel_rfl) rfl rfl rfl fun Sf => ?_
  (repeat (first | (refine AOps.gN ?_; first | (refine AOps.g_callf ?_; first | refine AOps.c2 (h := (containsFuncC_ps it.comps 87 [.fp [iA k]] (fun c => decide (c.kind = k)) rfl hl (fun x hx => match11_ps x k))) (k := ?_)) | (refine AOps.g_box ?_; refine AOps.goB ?_)) | refine WK ?_ | refine All.i fun X => ?_ | refine AllY.i fun Y => ?_))
  (refine AWP.ret ?_; (repeat (first | refine inB_r ?_ | refine andThen_r ?_)); refine retQ_r ?_); refine Ends.ps ?_
  rfl
theorem match2_ps (it : Item) (k : Int) (hl : it.comps.length ≤ 4611686018427387904) : PS Tryz.prog 88 [iA k, .fp [.fn 86 [.fp (itemA false it).cells]]] (bA (!hasK it.comps k)) := by
  refine Spec.of (nt := 8) (res := [.tmp 3]) Tryz.func88 rfl (by kernel_rfl) rfl rfl rfl fun Sf => ?_
  (repeat (first | (refine AOps.gN ?_; first | (refine AOps.g_callv ?_; first | refine AOps.k1 (h := (match1_ps it k hl)) (k := ?_))) | refine WK ?_ | refine All.i fun X => ?_ | refine AllY.i fun Y => ?_))
  (refine AWP.ret ?_; (repeat (first | refine inB_r ?_ | refine andThen_r ?_)); refine retQ_r ?_); refine Ends.ps ?_
  rfl
theorem match_ps (it : Item) (wth wout : List Int) (hl : it.comps.length ≤ 4611686018427387904) (h1 : wth.length ≤ 4611686018427387904) (h2 : wout.length ≤ 4611686018427387904) : PS Tryz.prog 55 [itemA false it, intsA false wth, intsA false wout] (bA (matchOf it wth wout)) := by
  have c1 := containsFuncI_ps wth 88 [.fp [.fn 86 [.fp (itemA false it).cells]]] (fun k => !hasK it.comps k) rfl h1 (fun x _ => match2_ps it x hl)
  have c2 := containsFuncI_ps wout 86 [.fp (itemA false it).cells] (fun k => hasK it.comps k) rfl h2 (fun x _ => match1_ps it x hl)
  unfold matchOf
  obtain ⟨b1, hb1⟩ : ∃ b, (wth.any fun k => !hasK it.comps k) = b := ⟨_, rfl⟩
  obtain ⟨b2, hb2⟩ : ∃ b, (wout.any fun k => hasK it.comps k) = b := ⟨_, rfl⟩
  rw [hb1] at c1 ⊢
  rw [hb2] at c2 ⊢
  refine Spec.of (nt := 19) (res := [.tmp 6]) Tryz.func55 rfl (by kernel_rfl) rfl rfl rfl fun Sf => ?_
  (repeat refine WF ?_); refine AWP.region ?_; (repeat (first | (refine AOps.gN ?_; first | (refine AOps.g_box ?_; refine AOps.goB ?_)) | refine WO ?_ | refine All.i fun X => ?_ | refine AllY.i fun Y => ?_)); refine AOps.nil ?_; (repeat refine WN ?_)
  (repeat refine WF ?_); refine AWP.region ?_; (repeat (first | (refine AOps.gN ?_; first | (refine AOps.g_box ?_; refine AOps.goB ?_)) | refine WO ?_ | refine All.i fun X => ?_ | refine AllY.i fun Y => ?_)); refine AOps.nil ?_; (repeat refine WN ?_)
  refine AWP.iceP [7] .here (hf := .fn1 (.fp (a := itemA false it) inferInstance)) ?_ (by intro d hd; simp only [List.mem_singleton] at hd; subst hd; rfl)
  cases b1
  · (repeat (first | (refine AOps.gN ?_; first | (refine AOps.g_callf ?_; first | refine AOps.c2 (h := (c1 ..)) (k := ?_) | refine AOps.c2 (h := (c2 ..)) (k := ?_))) | refine WK ?_ | refine All.i fun X => ?_ | refine AllY.i fun Y => ?_))
    (refine AWP.ret ?_; (repeat (first | refine inB_r ?_ | refine andThen_r ?_)); refine retQ_r ?_); refine Ends.ps ?_
    rfl
  · (repeat (first | (refine AOps.gN ?_; first | (refine AOps.g_callf ?_; first | refine AOps.c2 (h := (c1 ..)) (k := ?_))) | refine WK ?_ | refine All.i fun X => ?_ | refine AllY.i fun Y => ?_))
    (refine AWP.ret ?_; (repeat (first | refine inB_r ?_ | refine andThen_r ?_)); refine retQ_r ?_); refine Ends.ps ?_
    rfl
end Go.Proofs.YtkoehhpfjpdkcaaGreat

namespace Go.Proofs.YtkoehhpfjpdkcaaGreat
set_option linter.unusedVariables false
/-- The items that match among the first i, with their indices. -/
def allTo (l : List Item) (wth wout : List Int) : Nat → List (Nat × Item)
  | 0 => []
  | i + 1 => allTo l wth wout i ++ (match l[i]? with
    | some it => match matchOf it wth wout with
      | true => [(i, it)]
      | false => []
    | none => [])
def allOf (l : List Item) (wth wout : List Int) : List (Nat × Item) := allTo l wth wout l.length
theorem allTo_yes {l : List Item} {wth wout : List Int} {i : Nat} (h : i < l.length) (hm : matchOf l[i] wth wout = true) : allTo l wth wout (i + 1) = allTo l wth wout i ++ [(i, l[i])] := by
  simp [allTo, List.getElem?_eq_getElem h, hm]
theorem allTo_no {l : List Item} {wth wout : List Int} {i : Nat} (h : i < l.length) (hm : matchOf l[i] wth wout = false) : allTo l wth wout (i + 1) = allTo l wth wout i := by
  simp [allTo, List.getElem?_eq_getElem h, hm]
theorem allTo_len (l : List Item) (wth wout : List Int) (i : Nat) : (allTo l wth wout i).length ≤ i := by
  induction i with
  | zero => simp [allTo]
  | succ i ih =>
    rw [allTo, List.length_append]
    split
    · split <;> simp <;> omega
    · simp; omega
def rowA (q : Nat × Item) : AV := .agg [iA q.1, iA q.2.ent.n, iA q.2.ent.gen, compsA false false q.2.comps]
instance {q : Nat × Item} : Frz (rowA q) (rowA q) := ⟨by
  show AV.agg [_, _, _, (compsA false false q.2.comps).frz] = _
  rw [show (compsA false false q.2.comps).frz = compsA false false q.2.comps from Frz.h]
  rfl⟩
abbrev rowsA (l : List (Nat × Item)) : AV := .lst false 124 4 (l.map rowA)
theorem all_ps (w : Wd) (wth wout : List Int) (h0 : w.items.length ≤ 1099511627776) (hl : ∀ it ∈ w.items, it.comps.length ≤ 1099511627776 ∧ ∀ c ∈ it.comps, c.vals.length ≤ 1099511627776) (h1 : wth.length ≤ 4611686018427387904) (h2 : wout.length ≤ 4611686018427387904) :
    PS Tryz.prog 25 [wdA false w, intsA false wth, intsA false wout] (.fn 56 [.fp [rowsA (allOf w.items wth wout)]]) := by
  refine Spec.of (nt := 35) (res := [.tmp 6]) Tryz.func25 rfl (by kernel_rfl) rfl rfl rfl fun Sf => ?_
  (repeat refine WF ?_); refine AWP.region ?_; (repeat (first | (refine AOps.gN ?_; first | (refine AOps.g_box ?_; refine AOps.goB ?_)) | refine WO ?_ | refine All.i fun X => ?_ | refine AllY.i fun Y => ?_)); refine AOps.nil ?_; (repeat refine WN ?_)
  (repeat refine WF ?_); refine AWP.region ?_; (repeat (first | refine WO ?_ | refine All.i fun X => ?_ | refine AllY.i fun Y => ?_)); refine AOps.nil ?_; (repeat refine WN ?_)
  refine AWP.adoptIn 124 4 .here (fun K => .cons (.base .nil) .nil) fun K => ?_
  (repeat (first | refine WK ?_ | refine All.i fun X => ?_ | refine AllY.i fun Y => ?_))
  refine AWP.lp4 (fun (i K : Nat) (M : List AV) (n : Nat) => ⟨[(1, intsA false wth), (2, intsA false wout), (7, .ptr X 0 0), (11, itemsA false false w.items), (12, iA (w.items.map (itemA false)).length), (13, iA i)], (K, .row 124 4 M) :: (X, .row 121 1 [.sl K 0 n]) :: Sf⟩) (fun i _ M n => i ≤ w.items.length ∧ M = (allTo w.items wth wout i).map rowA ∧ n = M.length) (fun i _ _ _ => w.items.length - i) 0 K [] 0 ⟨Nat.zero_le _, rfl, rfl⟩ ?_
  rintro i K M n ⟨hi, hM, hn⟩
  (repeat (first | refine WK ?_ | refine All.i fun X => ?_ | refine AllY.i fun Y => ?_))
  refine AWP.cond rfl (fun hc => ?_) (fun hc => ?_)
  · have h : i < w.items.length := by simpa using hc
    have hn1 : n + 1 ≤ 1099511627776 := by have := allTo_len w.items wth wout i; rw [hn, hM, List.length_map]; omega
    obtain ⟨hc1, hc2⟩ := hl _ (List.getElem_mem h)
    obtain ⟨b, hb⟩ : ∃ b, matchOf w.items[i] wth wout = b := ⟨_, rfl⟩
    have hm := match_ps w.items[i] wth wout (by omega) h1 h2
    rw [hb] at hm
    (repeat (first | (refine AOps.gN ?_; first | (refine AOps.g_callf ?_; first | refine AOps.c3 (h := (hm ..)) (k := ?_))) | refine WK ?_ | refine All.i fun X => ?_ | refine AllY.i fun Y => ?_))
    cases b
    · refine AWP.cond_f rfl rfl ?_
      (repeat (first | refine WK ?_ | refine All.i fun X => ?_ | refine AllY.i fun Y => ?_))
      refine lp_next4 (i + 1) K M n ⟨h, ?_, hn⟩
      rw [allTo_no h hb, hM]
    · refine AWP.cond_t rfl rfl ?_
      refine AWP.rs fun X7 => ?_
      (repeat refine WF ?_); refine AWP.region_run (by kernel_rfl) (by kernel_rfl) ?_; (repeat (first | (refine RGo.gN ?_; first | (refine RGo.g_callf ?_; first | refine RGo.c1 (h := (copyComps_ps _ hc1 hc2)) (k := ?_)) | (refine RGo.g_lit ?_; refine RGo.goL (rowA (i, w.items[i])) ?_)) | (refine RGo.gQ ?_; first | (refine RGo.g_callf ?_; first | refine RGo.c1 (h := (copyComps_ps _ hc1 hc2)) (k := ?_)) | (refine RGo.g_lit ?_; refine RGo.goL (rowA (i, w.items[i])) ?_)) | refine RK ?_ | refine RGo.nil (by kernel_rfl) ?_))
      (repeat (first | refine WK ?_ | refine All.i fun X => ?_ | refine AllY.i fun Y => ?_))
      refine lp_next4 (i + 1) X7 _ _ ⟨h, ?_, ?_⟩
      · rw [allTo_yes h hb, hM, List.map_append]; rfl
      · rw [List.length_append, hn]
  · have h : i = w.items.length := by rw [decide_eq_false_iff_not, List.length_map] at hc; omega
    subst h
    (repeat first | refine AOps.nil ?_ | refine WF ?_)
    refine AWP.iceIn (X := K) .here (.next .here) rfl (.cons (.base (.sl (by omega))) .nil) ?_
    have hF : AV.frzs ((M.drop 0).take n) = (allOf w.items wth wout).map rowA := by
      rw [List.drop_zero, List.take_of_length_le (by omega), hM]
      exact Frzs.h
    rw [hF]
    refine AWP.iceP [7] (.next .here) ?_ (by intro d hd; simp only [List.mem_singleton] at hd; subst hd; rfl)
    (repeat (first | refine WK ?_ | refine All.i fun X => ?_ | refine AllY.i fun Y => ?_))
    (refine AWP.ret ?_; (repeat (first | refine inB_r ?_ | refine andThen_r ?_)); refine retQ_r ?_); refine Ends.ps ?_
    rfl
theorem allOf_len (l : List Item) (wth wout : List Int) : (allOf l wth wout).length ≤ l.length := allTo_len l wth wout l.length
theorem allTo_mem {l : List Item} {wth wout : List Int} {i : Nat} {q : Nat × Item} (h : q ∈ allTo l wth wout i) : q.2 ∈ l := by
  induction i with
  | zero => simp [allTo] at h
  | succ i ih =>
    rw [allTo, List.mem_append] at h
    rcases h with h | h
    · exact ih h
    · split at h
      · rename_i it hit
        split at h
        · simp only [List.mem_singleton] at h
          subst h
          exact List.mem_of_getElem? hit
        · cases h
      · cases h
end Go.Proofs.YtkoehhpfjpdkcaaGreat

namespace Go.Proofs.YtkoehhpfjpdkcaaGreat
set_option linter.unusedVariables false
set_option maxRecDepth 4000 in
theorem copyCompsD_ps (l : List Comp) (hl : l.length ≤ 1099511627776) (hv : ∀ c ∈ l, c.vals.length ≤ 1099511627776) : PS Tryz.prog 54 [compsA false false l] (compsA true true l) := by
  have hlm : (l.map (compA false)).length = l.length := List.length_map _
  refine Spec.of (nt := 27) (res := [.tmp 2]) Tryz.func54 rfl (by kernel_rfl) rfl rfl rfl fun Sf => ?_
  have hl' : (l.map (compA false)).length ≤ 1099511627776 := by simpa using hl
  have hz0 : List.replicate (l.map (compA false)).length (.agg [iA 0, .prim (.slice none 0 0)]) = fillTo (compA true) (.agg [iA 0, .prim (.slice none 0 0)]) l 0 := by rw [fillTo_zero, hlm]
  (repeat (first | (refine AOps.gN ?_; first | (refine AOps.g_make ?_; refine AOps.goM (.agg [iA 0, .prim (.slice none 0 0)]) fun K => ?_)) | refine WK ?_ | refine All.i fun X => ?_ | refine AllY.i fun Y => ?_))
  rw [hz0]
  refine AWP.lp2 (fun (i : Nat) (M : List AV) => ⟨[(3, .sl K 0 (l.map (compA false)).length), (9, compsA false false l), (10, iA (l.map (compA false)).length), (11, iA i)], (K, .row 104 2 M) :: Sf⟩) (fun i M => i ≤ l.length ∧ M = fillTo (compA true) (.agg [iA 0, .prim (.slice none 0 0)]) l i) (fun i _ => l.length - i) 0 _ ⟨Nat.zero_le _, rfl⟩ ?_
  rintro i M ⟨hi, hM⟩
  (repeat (first | refine WK ?_ | refine All.i fun X => ?_ | refine AllY.i fun Y => ?_))
  refine AWP.cond rfl (fun hc => ?_) (fun hc => ?_)
  · have h : i < l.length := by simpa using hc
    have hm : i < (l.map (compA false)).length := by simpa using h
    have hset := fillTo_set (compA true) (.agg [iA 0, .prim (.slice none 0 0)]) l h
    have hMat : M[i]? = some (.agg [iA 0, .prim (.slice none 0 0)]) := by rw [hM]; exact fillTo_at _ _ _ h
    have hMl : M.length = l.length := by rw [hM]; exact fillTo_len _ _ _ _ hi
    have hvl := hv _ (List.getElem_mem h)
    obtain ⟨⟨ck, cv⟩, hce⟩ : ∃ c, l[i] = c := ⟨_, rfl⟩
    rw [hce] at hset hvl
    dsimp only at hvl
    have hat : (l.map (compA false))[i]? = some (compA false ⟨ck, cv⟩) := by rw [List.getElem?_map, List.getElem?_eq_getElem h, hce]; rfl
    have hcl := cloneI_ps cv (by omega)
    (repeat (first | refine WK ?_ | refine All.i fun V => ?_ | refine AllY.i fun Y => ?_))
    refine AWP.rs fun Y => ?_
    (repeat refine WF ?_); refine AWP.region_run (by kernel_rfl) (by kernel_rfl) ?_; (repeat (first | (refine RGo.gN ?_; first | refine RGo.t1 (h := hcl) (k := ?_)) | (refine RGo.gQ ?_; first | refine RGo.t1 (h := hcl) (k := ?_)) | refine RK ?_ | refine RGo.nil (by kernel_rfl) ?_))
    (repeat refine WF ?_)
    have hMs : (M.set i (.agg [iA ck, .sl Y 0 (cv.map iA).length]))[i]? = some (.agg [iA ck, .sl Y 0 (cv.map iA).length]) := List.getElem?_set_self (by omega)
    refine AWP.closeIn (X := Y) (Y := K) (by exact At.f) (by exact At.f) rfl rfl (Hos.at hMs (.agg (.tail (.head .here)))) ?_
    rw [List.set_set]
    (repeat (first | refine WK ?_ | refine All.i fun X => ?_ | refine AllY.i fun Y => ?_))
    refine lp_next2 (i + 1) _ ⟨h, ?_⟩
    rw [hM]; exact hset
  · have h : i = l.length := by rw [decide_eq_false_iff_not, hlm] at hc; omega
    subst h
    rw [fillTo_all _ _ _ (Nat.le_refl _)] at hM
    subst hM
    have hK : (l.map (compA false)).length = (l.map (compA true)).length := by simp
    (repeat (first | refine WK ?_ | refine All.i fun X => ?_ | refine AllY.i fun Y => ?_))
    (refine AWP.ret ?_; (repeat (first | refine inB_r ?_ | refine andThen_r ?_)); refine retQ_r ?_)
    exact Ends.cv [.sl K 0 (l.map (compA false)).length] [compsA true true l] (.cons (.cell (.sl (p := 0) .here hK)) .nil)
end Go.Proofs.YtkoehhpfjpdkcaaGreat

namespace Go.Proofs.YtkoehhpfjpdkcaaGreat
set_option linter.unusedVariables false
/-- What is yielded for an item that matches. -/
def itY (q : Nat × Item) : YO := fun C => ([iA q.1, .agg [iA q.2.ent.n, iA q.2.ent.gen, .sl C 0 (q.2.comps.map (compA true)).length]], [(C, .row 104 2 (q.2.comps.map (compA true)))])
theorem all1_itrO (l : List (Nat × Item)) (h0 : l.length ≤ 1099511627776) (hl : ∀ q ∈ l, q.2.comps.length ≤ 1099511627776 ∧ ∀ c ∈ q.2.comps, c.vals.length ≤ 1099511627776) : ItrO Tryz.prog 56 [.fp [rowsA l]] (l.map itY) := by
  refine ⟨by kernel_rfl, fun y J Jx hY Sl hJ0 => ?_⟩
  refine Spec.of (nt := 25) (res := []) Tryz.func56 rfl (by kernel_rfl) rfl rfl rfl fun Sf => ?_
  (repeat refine WF ?_); refine AWP.region ?_; (repeat (first | refine WO ?_ | refine All.i fun X => ?_ | refine AllY.i fun Y => ?_)); refine AOps.nil ?_; (repeat refine WN ?_)
  (repeat first | refine AOps.nil ?_ | refine WF ?_)
  refine AWP.lp2 (fun (i : Nat) (Sl : List Slot) => ⟨[(0, .prim y), (5, rowsA l), (6, iA (l.map rowA).length), (7, iA i)], Sl ++ Sf⟩) (fun i Sl => i ≤ l.length ∧ J i Sl) (fun i _ => l.length - i) 0 Sl ⟨Nat.zero_le _, hJ0⟩ ?_
  rintro i Sl ⟨hi, hJ⟩
  (repeat (first | refine WK ?_ | refine All.i fun X => ?_ | refine AllY.i fun Y => ?_))
  refine AWP.cond rfl (fun hc => ?_) (fun hc => ?_)
  · have h : i < l.length := by simpa using hc
    obtain ⟨hc1, hc2⟩ := hl _ (List.getElem_mem h)
    have hcc := copyCompsD_ps _ hc1 hc2
    (repeat refine WF ?_)
    (repeat refine WF ?_); refine AWP.region ?_; (repeat (first | refine WO ?_ | refine All.i fun X => ?_ | refine AllY.i fun Y => ?_)); refine AOps.nil ?_; (repeat refine WN ?_)
    refine AWP.rs fun C => ?_
    (repeat refine WF ?_); refine AWP.region_tail 11 (by kernel_rfl) (by kernel_rfl) (by kernel_rfl) ?_; dsimp only [List.take, List.drop]; (repeat (first | (refine RGo.gN ?_; first | refine RGo.t1 (h := hcc) (k := ?_)) | (refine RGo.gQ ?_; first | refine RGo.t1 (h := hcc) (k := ?_)) | refine RK ?_ | refine RGo.nil (by kernel_rfl) ?_))
    refine AOps.sub (S' := ((C, .row 104 2 (l[i].2.comps.map (compA true))) :: Sl) ++ Sf) (by exact Sub.f) ?_
    refine AOps.yieldO2 C (Si := []) (ob := [(C, .row 104 2 (l[i].2.comps.map (compA true)))]) hY hJ (show (l.map itY)[i]? = some (itY l[i]) by simp [h]) rfl rfl (fun Sl' hk => ?_) (fun Sl' hk => ?_)
    · (repeat (first | refine WK ?_ | refine All.i fun X => ?_ | refine AllY.i fun Y => ?_))
      refine AWP.cond_f rfl rfl ?_
      (repeat (first | refine WK ?_ | refine All.i fun X => ?_ | refine AllY.i fun Y => ?_))
      refine lp_next2 (i + 1) Sl' ⟨h, hk⟩
    · (repeat (first | refine WK ?_ | refine All.i fun X => ?_ | refine AllY.i fun Y => ?_))
      refine AWP.cond_t rfl rfl ?_
      (refine AWP.ret ?_; (repeat (first | refine inB_r ?_ | refine andThen_r ?_)); refine retQ_r ?_)
      exact Ends.void Sl' (.inr hk)
  · have h : i = l.length := by rw [decide_eq_false_iff_not, List.length_map] at hc; omega
    subst h
    (repeat (first | refine WK ?_ | refine All.i fun X => ?_ | refine AllY.i fun Y => ?_))
    refine retQ_n ?_
    exact Ends.void Sl (.inl (by rw [List.length_map]; exact hJ))
end Go.Proofs.YtkoehhpfjpdkcaaGreat

namespace Go.Proofs.YtkoehhpfjpdkcaaGreat
set_option linter.unusedVariables false
set_option maxRecDepth 4000 in
set_option maxHeartbeats 4000000 in
theorem op0_ps (ks : List Kind) (s : Sys) (o : Op) (h : OpG ks s.reads s.writes o) (hkk : 10 ≤ o.act ∧ o.act ≤ 11) (hr : s.reads.length ≤ 1099511627776) (hw : s.writes.length ≤ 1099511627776) : PS Tryz.prog 51 [kindsA false false ks, sysA false s, opA o] (iA 0) := by
  obtain ⟨h1, h2, h3, h4, h5, h6, h7, h8⟩ := h
  obtain ⟨act, ⟨tk, tf⟩, a, b⟩ := o
  dsimp only at h1 h2 h3 h4 h5 h6 h7 h8 hkk
  have g1 : decide (act < 0) = false := decide_eq_false (by omega)
  have g2 : decide (act > 12) = false := decide_eq_false (by omega)
  have hax : ∀ i, i < 2 → ∃ x, ([argA a, argA b])[i]? = some (argA x) ∧ ArgG ks s.reads s.writes x := fun i hi => by
    rcases Nat.lt_or_ge i 1 with e | e
    · obtain rfl : i = 0 := by omega
      exact ⟨a, rfl, h3⟩
    · obtain rfl : i = 1 := by omega
      exact ⟨b, rfl, h4⟩
  have hkm : (ks.map (kindA false)).length = ks.length := List.length_map _
  refine Spec.of (nt := 201) (res := [.tmp 6]) Tryz.func51 rfl (by kernel_rfl) rfl rfl rfl fun Sf => ?_
  (repeat refine WF ?_); refine AWP.region ?_; (repeat (first | (refine AOps.gN ?_; first | (refine AOps.g_box ?_; refine AOps.goB ?_)) | refine WO ?_ | refine All.i fun X => ?_ | refine AllY.i fun Y => ?_)); refine AOps.nil ?_; (repeat refine WN ?_)
  (repeat refine WF ?_); refine AWP.region ?_; (repeat (first | refine WO ?_ | refine All.i fun X => ?_ | refine AllY.i fun Y => ?_)); refine AOps.nil ?_; (repeat refine WN ?_)
  refine AWP.cond_f rfl g2 ?_
  (repeat (first | (refine AOps.gN ?_; first | (refine AOps.g_lit ?_; refine AOps.goL2 (argA a) (argA b) ?_)) | refine WK ?_ | refine All.i fun X => ?_ | refine AllY.i fun Y => ?_))
  refine AWP.lp (fun i : Nat => ⟨[(0, kindsA false false ks), (4, .fp (sysA false s).cells), (5, .fp (opA ⟨act, ⟨tk, tf⟩, a, b⟩).cells), (27, .lst false 80 4 [argA a, argA b]), (28, iA 2), (29, iA i)], Sf⟩) (fun i => i ≤ 2) (fun i => 2 - i) 0 (by omega) ?_
  rintro i hi
  (repeat (first | refine WK ?_ | refine All.i fun X => ?_ | refine AllY.i fun Y => ?_))
  refine AWP.cond rfl (fun hc => ?_) (fun hc => ?_)
  · have hi2 : i < 2 := by rw [decide_eq_true_eq] at hc; omega
    obtain ⟨⟨xh, xn, ⟨xk, xf⟩⟩, hat, hx⟩ := hax i hi2
    obtain ⟨hy, hn⟩ := hx
    dsimp only at hy hn
    have hal : i < [argA a, argA b].length := hi2
    (repeat refine WF ?_); refine AWP.region ?_; (repeat (first | refine WO ?_ | refine All.i fun V => ?_ | refine AllY.i fun Y => ?_)); refine AOps.nil ?_; (repeat refine WN ?_)
    cases xh
    · obtain ⟨n1, n2, n3⟩ := hn rfl
      have k1 : decide (xn < -1099511627776) = false := decide_eq_false (by omega)
      have k2 : decide (xn > 1099511627776) = false := decide_eq_false (by omega)
      (repeat refine WF ?_); refine AWP.region ?_; (repeat (first | (refine AOps.gQ ?_; first | refine AOps.goNU ?_ | refine AOps.goNV ?_) | refine WO ?_ | refine All.i fun X => ?_ | refine AllY.i fun Y => ?_)); refine AOps.nil ?_; (repeat refine WN ?_)
      refine AWP.cond_f rfl (by first | rfl | assumption) ?_
      (repeat (first | refine WK ?_ | refine All.i fun X => ?_ | refine AllY.i fun Y => ?_))
      refine lp_next (i + 1) hi2
    · obtain ⟨n1, n2, n3⟩ := hy rfl
      have hf := isField_ps ks ⟨xk, xf⟩ n2
      (repeat refine WF ?_); refine AWP.region ?_; (repeat (first | (refine AOps.gN ?_; first | (refine AOps.g_callf ?_; first | refine AOps.c2 (h := (hf ..)) (k := ?_))) | (refine AOps.gQ ?_; first | refine AOps.goNU ?_ | refine AOps.goNV ?_) | refine WO ?_ | refine All.i fun X => ?_ | refine AllY.i fun Y => ?_)); refine AOps.nil ?_; (repeat refine WN ?_)
      refine AWP.cond_f rfl (by first | rfl | assumption) ?_
      (repeat (first | refine WK ?_ | refine All.i fun X => ?_ | refine AllY.i fun Y => ?_))
      refine lp_next (i + 1) hi2
  · clear hc
    (repeat first | refine AOps.nil ?_ | refine WF ?_)
    (repeat refine WF ?_); refine AWP.region ?_; (repeat (first | refine WO ?_ | refine All.i fun N => ?_ | refine AllY.i fun Y => ?_)); refine AOps.nil ?_; (repeat refine WN ?_)
    (repeat (first | (refine AOps.gN ?_; first | (refine AOps.g_lit ?_; refine AOps.goL2 (argA a) (argA b) ?_)) | refine WK ?_ | refine All.i fun X => ?_ | refine AllY.i fun Y => ?_))
    refine AWP.lp (fun i : Nat => ⟨[(0, kindsA false false ks), (4, .fp (sysA false s).cells), (5, .fp (opA ⟨act, ⟨tk, tf⟩, a, b⟩).cells), (9, .ptr N 0 0), (63, .lst false 80 4 [argA a, argA b]), (64, iA 2), (65, iA i)], (N, .row 78 2 [refA ⟨0, 0⟩]) :: Sf⟩) (fun i => i ≤ 2) (fun i => 2 - i) 0 (by omega) ?_
    rintro i hi
    (repeat (first | refine WK ?_ | refine All.i fun X => ?_ | refine AllY.i fun Y => ?_))
    refine AWP.cond rfl (fun hc => ?_) (fun hc => ?_)
    · have hi2 : i < 2 := by rw [decide_eq_true_eq] at hc; omega
      obtain ⟨⟨xh, xn, xr⟩, hat, hx⟩ := hax i hi2
      obtain ⟨hy, hn⟩ := hx
      dsimp only at hy hn
      have hal : i < [argA a, argA b].length := hi2
      (repeat refine WF ?_); refine AWP.region ?_; (repeat (first | refine WO ?_ | refine All.i fun V => ?_ | refine AllY.i fun Y => ?_)); refine AOps.nil ?_; (repeat refine WN ?_)
      cases xh
      · obtain ⟨n1, n2, n3⟩ := hn rfl
        subst n3
        (repeat refine WF ?_); refine AWP.region ?_; (repeat (first | (refine AOps.gN ?_; first | refine AOps.go (h := W.neP _ _ (by kernel_rfl) refNe rfl rfl) (k := ?_)) | (refine AOps.gQ ?_; first | refine AOps.goNU ?_ | refine AOps.goNV ?_) | refine WO ?_ | refine All.i fun X => ?_ | refine AllY.i fun Y => ?_)); refine AOps.nil ?_; (repeat refine WN ?_)
        refine AWP.cond_f rfl (by first | rfl | assumption) ?_
        (repeat (first | refine WK ?_ | refine All.i fun X => ?_ | refine AllY.i fun Y => ?_))
        refine lp_next (i + 1) hi2
      · obtain ⟨n1, n2, n3⟩ := hy rfl
        subst n1
        (repeat refine WF ?_); refine AWP.region ?_; (repeat (first | (refine AOps.gQ ?_; first | refine AOps.goNU ?_ | refine AOps.goNV ?_) | refine WO ?_ | refine All.i fun X => ?_ | refine AllY.i fun Y => ?_)); refine AOps.nil ?_; (repeat refine WN ?_)
        refine AWP.cond_f rfl (by first | rfl | assumption) ?_
        (repeat (first | refine WK ?_ | refine All.i fun X => ?_ | refine AllY.i fun Y => ?_))
        refine lp_next (i + 1) hi2
    · clear hc
      (repeat first | refine AOps.nil ?_ | refine WF ?_)
      have hst := sets_ps act
      have htw := two_ps act
      obtain ⟨sB, hsB⟩ : ∃ b, setsB act = b := ⟨_, rfl⟩
      obtain ⟨tB, htB⟩ : ∃ b, twoOp act = b := ⟨_, rfl⟩
      obtain ⟨c8, hc8⟩ : ∃ b, decide (act = 8) = b := ⟨_, rfl⟩
      obtain ⟨c9, hc9⟩ : ∃ b, decide (act = 9) = b := ⟨_, rfl⟩
      rw [hsB] at hst h6
      rw [htB] at htw h5
      have hk1 : ∀ x : Int, x ∈ s.writes → s.writes.contains x = true := fun x hx => by simpa using hx
      have hcw := fun x => containsI_ps s.writes x (by omega)
      have hcr := fun x => containsI_ps s.reads x (by omega)
      have hsB' := hsB
      have htB' := htB
      have htB0 := htB
      unfold setsB at hsB'
      unfold twoOp at htB'
      cases sB <;> cases tB <;> cases c8 <;> cases c9
      all_goals first
        | (exfalso; (try rw [htB0] at hkk); simp only [Bool.and_eq_true, Bool.or_eq_true, Bool.and_eq_false_iff, Bool.or_eq_false_iff, decide_eq_true_eq, decide_eq_false_iff_not] at hsB' htB' hc8 hc9; first | omega | (revert hkk; simp; done))
        | skip
      · have ht0 := h8 (by simp only [decide_eq_false_iff_not, Bool.and_eq_false_iff] at hc8 hc9 hsB'; omega)
        injection ht0 with ht1 ht2
        subst ht1 ht2
        have hn9 : (!decide (act = 9)) = true := by rw [hc9]; rfl
        obtain rfl : b = arg0 := h5 rfl
        (repeat refine WF ?_); refine AWP.region ?_; (repeat (first | refine WO ?_ | refine All.i fun X => ?_ | refine AllY.i fun Y => ?_)); refine AOps.nil ?_; (repeat refine WN ?_)
        (repeat refine WF ?_); refine AWP.region ?_; (repeat (first | (refine AOps.gN ?_; first | (refine AOps.g_callf ?_; first | refine AOps.c1 (h := (hst ..)) (k := ?_) | refine AOps.c1 (h := (htw ..)) (k := ?_)) | refine AOps.go (h := W.neP _ _ (by kernel_rfl) argNe rfl rfl) (k := ?_) | refine AOps.go (h := W.neP _ _ (by kernel_rfl) refNe rfl rfl) (k := ?_)) | (refine AOps.gQ ?_; first | refine AOps.goNU ?_ | refine AOps.goNV ?_) | refine WO ?_ | refine All.i fun X => ?_ | refine AllY.i fun Y => ?_)); refine AOps.nil ?_; (repeat refine WN ?_)
        refine AWP.cond_f rfl (by first | rfl | assumption) ?_
        (repeat refine WF ?_); refine AWP.region ?_; (repeat (first | (refine AOps.gN ?_; first | (refine AOps.g_callf ?_; first | refine AOps.c1 (h := (hst ..)) (k := ?_))) | (refine AOps.gQ ?_; first | refine AOps.goNU ?_ | refine AOps.goNV ?_) | refine WO ?_ | refine All.i fun X => ?_ | refine AllY.i fun Y => ?_)); refine AOps.nil ?_; (repeat refine WN ?_)
        refine AWP.cond_f rfl (by first | rfl | assumption) ?_
        (repeat refine WF ?_); refine AWP.region ?_; (repeat (first | (refine AOps.gN ?_; first | (refine AOps.g_callf ?_; first | refine AOps.c1 (h := (hst ..)) (k := ?_))) | (refine AOps.gQ ?_; first | refine AOps.goNU ?_ | refine AOps.goNV ?_) | refine WO ?_ | refine All.i fun X => ?_ | refine AllY.i fun Y => ?_)); refine AOps.nil ?_; (repeat refine WN ?_)
        refine AWP.cond_f rfl (by first | rfl | assumption) ?_
        (repeat (first | (refine AOps.gN ?_; first | (refine AOps.g_lit ?_; refine AOps.goL2 (argA a) (argA arg0) ?_)) | refine WK ?_ | refine All.i fun X => ?_ | refine AllY.i fun Y => ?_))
        refine AWP.lp (fun i : Nat => ⟨[(0, kindsA false false ks), (4, .fp (sysA false s).cells), (174, .lst false 80 4 [argA a, argA arg0]), (175, iA 2), (176, iA i)], Sf⟩) (fun i => i ≤ 2) (fun i => 2 - i) 0 (by omega) ?_
        rintro i hi
        (repeat (first | refine WK ?_ | refine All.i fun X => ?_ | refine AllY.i fun Y => ?_))
        refine AWP.cond rfl (fun hc => ?_) (fun hc => ?_)
        · have hi2 : i < 2 := by rw [decide_eq_true_eq] at hc; omega
          obtain ⟨⟨xh, xn, xr⟩, hat, hx⟩ := hax i hi2
          obtain ⟨hy, hn⟩ := hx
          dsimp only at hy hn
          have hal : i < [argA a, argA arg0].length := hi2
          (repeat refine WF ?_); refine AWP.region ?_; (repeat (first | refine WO ?_ | refine All.i fun V => ?_ | refine AllY.i fun Y => ?_)); refine AOps.nil ?_; (repeat refine WN ?_)
          cases xh
          · (repeat refine WF ?_); refine AWP.region ?_; (repeat (first | (refine AOps.gQ ?_; first | refine AOps.goNU ?_ | refine AOps.goNV ?_) | refine WO ?_ | refine All.i fun X => ?_ | refine AllY.i fun Y => ?_)); refine AOps.nil ?_; (repeat refine WN ?_)
            refine AWP.cond_f rfl (by first | rfl | assumption) ?_
            (repeat (first | refine WK ?_ | refine All.i fun X => ?_ | refine AllY.i fun Y => ?_))
            refine lp_next (i + 1) hi2
          · obtain ⟨n1, n2, n3⟩ := hy rfl
            have hr1 := hcr xr.kind
            have hr2 := hcw xr.kind
            cases hrr : s.reads.contains xr.kind
            · rw [hrr] at hr1
              rw [show s.writes.contains xr.kind = true from by rcases n3 with e | e; rw [e] at hrr; cases hrr; exact e] at hr2
              (repeat refine WF ?_); refine AWP.region ?_; (repeat (first | (refine AOps.gN ?_; first | (refine AOps.g_callf ?_; first | refine AOps.c2 (h := (hr1 ..)) (k := ?_) | refine AOps.c2 (h := (hr2 ..)) (k := ?_))) | (refine AOps.gQ ?_; first | refine AOps.goNU ?_ | refine AOps.goNV ?_) | refine WO ?_ | refine All.i fun X => ?_ | refine AllY.i fun Y => ?_)); refine AOps.nil ?_; (repeat refine WN ?_)
              refine AWP.cond_f rfl (by first | rfl | assumption) ?_
              (repeat (first | refine WK ?_ | refine All.i fun X => ?_ | refine AllY.i fun Y => ?_))
              refine lp_next (i + 1) hi2
            · rw [hrr] at hr1
              (repeat refine WF ?_); refine AWP.region ?_; (repeat (first | (refine AOps.gN ?_; first | (refine AOps.g_callf ?_; first | refine AOps.c2 (h := (hr1 ..)) (k := ?_))) | (refine AOps.gQ ?_; first | refine AOps.goNU ?_ | refine AOps.goNV ?_) | refine WO ?_ | refine All.i fun X => ?_ | refine AllY.i fun Y => ?_)); refine AOps.nil ?_; (repeat refine WN ?_)
              refine AWP.cond_f rfl (by first | rfl | assumption) ?_
              (repeat (first | refine WK ?_ | refine All.i fun X => ?_ | refine AllY.i fun Y => ?_))
              refine lp_next (i + 1) hi2
        · (repeat (first | refine WK ?_ | refine All.i fun X => ?_ | refine AllY.i fun Y => ?_))
          (refine AWP.ret ?_; (repeat (first | refine inB_r ?_ | refine andThen_r ?_)); refine retQ_r ?_); refine Ends.ps ?_
          rfl
end Go.Proofs.YtkoehhpfjpdkcaaGreat

namespace Go.Proofs.YtkoehhpfjpdkcaaGreat
set_option linter.unusedVariables false
set_option maxRecDepth 4000 in
set_option maxHeartbeats 4000000 in
theorem op1_ps (ks : List Kind) (s : Sys) (o : Op) (h : OpG ks s.reads s.writes o) (hkk : o.act = 9) (hr : s.reads.length ≤ 1099511627776) (hw : s.writes.length ≤ 1099511627776) : PS Tryz.prog 51 [kindsA false false ks, sysA false s, opA o] (iA 0) := by
  obtain ⟨h1, h2, h3, h4, h5, h6, h7, h8⟩ := h
  obtain ⟨act, ⟨tk, tf⟩, a, b⟩ := o
  dsimp only at h1 h2 h3 h4 h5 h6 h7 h8 hkk
  have g1 : decide (act < 0) = false := decide_eq_false (by omega)
  have g2 : decide (act > 12) = false := decide_eq_false (by omega)
  have hax : ∀ i, i < 2 → ∃ x, ([argA a, argA b])[i]? = some (argA x) ∧ ArgG ks s.reads s.writes x := fun i hi => by
    rcases Nat.lt_or_ge i 1 with e | e
    · obtain rfl : i = 0 := by omega
      exact ⟨a, rfl, h3⟩
    · obtain rfl : i = 1 := by omega
      exact ⟨b, rfl, h4⟩
  have hkm : (ks.map (kindA false)).length = ks.length := List.length_map _
  refine Spec.of (nt := 201) (res := [.tmp 6]) Tryz.func51 rfl (by kernel_rfl) rfl rfl rfl fun Sf => ?_
  (repeat refine WF ?_); refine AWP.region ?_; (repeat (first | (refine AOps.gN ?_; first | (refine AOps.g_box ?_; refine AOps.goB ?_)) | refine WO ?_ | refine All.i fun X => ?_ | refine AllY.i fun Y => ?_)); refine AOps.nil ?_; (repeat refine WN ?_)
  (repeat refine WF ?_); refine AWP.region ?_; (repeat (first | refine WO ?_ | refine All.i fun X => ?_ | refine AllY.i fun Y => ?_)); refine AOps.nil ?_; (repeat refine WN ?_)
  refine AWP.cond_f rfl g2 ?_
  (repeat (first | (refine AOps.gN ?_; first | (refine AOps.g_lit ?_; refine AOps.goL2 (argA a) (argA b) ?_)) | refine WK ?_ | refine All.i fun X => ?_ | refine AllY.i fun Y => ?_))
  refine AWP.lp (fun i : Nat => ⟨[(0, kindsA false false ks), (4, .fp (sysA false s).cells), (5, .fp (opA ⟨act, ⟨tk, tf⟩, a, b⟩).cells), (27, .lst false 80 4 [argA a, argA b]), (28, iA 2), (29, iA i)], Sf⟩) (fun i => i ≤ 2) (fun i => 2 - i) 0 (by omega) ?_
  rintro i hi
  (repeat (first | refine WK ?_ | refine All.i fun X => ?_ | refine AllY.i fun Y => ?_))
  refine AWP.cond rfl (fun hc => ?_) (fun hc => ?_)
  · have hi2 : i < 2 := by rw [decide_eq_true_eq] at hc; omega
    obtain ⟨⟨xh, xn, ⟨xk, xf⟩⟩, hat, hx⟩ := hax i hi2
    obtain ⟨hy, hn⟩ := hx
    dsimp only at hy hn
    have hal : i < [argA a, argA b].length := hi2
    (repeat refine WF ?_); refine AWP.region ?_; (repeat (first | refine WO ?_ | refine All.i fun V => ?_ | refine AllY.i fun Y => ?_)); refine AOps.nil ?_; (repeat refine WN ?_)
    cases xh
    · obtain ⟨n1, n2, n3⟩ := hn rfl
      have k1 : decide (xn < -1099511627776) = false := decide_eq_false (by omega)
      have k2 : decide (xn > 1099511627776) = false := decide_eq_false (by omega)
      (repeat refine WF ?_); refine AWP.region ?_; (repeat (first | (refine AOps.gQ ?_; first | refine AOps.goNU ?_ | refine AOps.goNV ?_) | refine WO ?_ | refine All.i fun X => ?_ | refine AllY.i fun Y => ?_)); refine AOps.nil ?_; (repeat refine WN ?_)
      refine AWP.cond_f rfl (by first | rfl | assumption) ?_
      (repeat (first | refine WK ?_ | refine All.i fun X => ?_ | refine AllY.i fun Y => ?_))
      refine lp_next (i + 1) hi2
    · obtain ⟨n1, n2, n3⟩ := hy rfl
      have hf := isField_ps ks ⟨xk, xf⟩ n2
      (repeat refine WF ?_); refine AWP.region ?_; (repeat (first | (refine AOps.gN ?_; first | (refine AOps.g_callf ?_; first | refine AOps.c2 (h := (hf ..)) (k := ?_))) | (refine AOps.gQ ?_; first | refine AOps.goNU ?_ | refine AOps.goNV ?_) | refine WO ?_ | refine All.i fun X => ?_ | refine AllY.i fun Y => ?_)); refine AOps.nil ?_; (repeat refine WN ?_)
      refine AWP.cond_f rfl (by first | rfl | assumption) ?_
      (repeat (first | refine WK ?_ | refine All.i fun X => ?_ | refine AllY.i fun Y => ?_))
      refine lp_next (i + 1) hi2
  · clear hc
    (repeat first | refine AOps.nil ?_ | refine WF ?_)
    (repeat refine WF ?_); refine AWP.region ?_; (repeat (first | refine WO ?_ | refine All.i fun N => ?_ | refine AllY.i fun Y => ?_)); refine AOps.nil ?_; (repeat refine WN ?_)
    (repeat (first | (refine AOps.gN ?_; first | (refine AOps.g_lit ?_; refine AOps.goL2 (argA a) (argA b) ?_)) | refine WK ?_ | refine All.i fun X => ?_ | refine AllY.i fun Y => ?_))
    refine AWP.lp (fun i : Nat => ⟨[(0, kindsA false false ks), (4, .fp (sysA false s).cells), (5, .fp (opA ⟨act, ⟨tk, tf⟩, a, b⟩).cells), (9, .ptr N 0 0), (63, .lst false 80 4 [argA a, argA b]), (64, iA 2), (65, iA i)], (N, .row 78 2 [refA ⟨0, 0⟩]) :: Sf⟩) (fun i => i ≤ 2) (fun i => 2 - i) 0 (by omega) ?_
    rintro i hi
    (repeat (first | refine WK ?_ | refine All.i fun X => ?_ | refine AllY.i fun Y => ?_))
    refine AWP.cond rfl (fun hc => ?_) (fun hc => ?_)
    · have hi2 : i < 2 := by rw [decide_eq_true_eq] at hc; omega
      obtain ⟨⟨xh, xn, xr⟩, hat, hx⟩ := hax i hi2
      obtain ⟨hy, hn⟩ := hx
      dsimp only at hy hn
      have hal : i < [argA a, argA b].length := hi2
      (repeat refine WF ?_); refine AWP.region ?_; (repeat (first | refine WO ?_ | refine All.i fun V => ?_ | refine AllY.i fun Y => ?_)); refine AOps.nil ?_; (repeat refine WN ?_)
      cases xh
      · obtain ⟨n1, n2, n3⟩ := hn rfl
        subst n3
        (repeat refine WF ?_); refine AWP.region ?_; (repeat (first | (refine AOps.gN ?_; first | refine AOps.go (h := W.neP _ _ (by kernel_rfl) refNe rfl rfl) (k := ?_)) | (refine AOps.gQ ?_; first | refine AOps.goNU ?_ | refine AOps.goNV ?_) | refine WO ?_ | refine All.i fun X => ?_ | refine AllY.i fun Y => ?_)); refine AOps.nil ?_; (repeat refine WN ?_)
        refine AWP.cond_f rfl (by first | rfl | assumption) ?_
        (repeat (first | refine WK ?_ | refine All.i fun X => ?_ | refine AllY.i fun Y => ?_))
        refine lp_next (i + 1) hi2
      · obtain ⟨n1, n2, n3⟩ := hy rfl
        subst n1
        (repeat refine WF ?_); refine AWP.region ?_; (repeat (first | (refine AOps.gQ ?_; first | refine AOps.goNU ?_ | refine AOps.goNV ?_) | refine WO ?_ | refine All.i fun X => ?_ | refine AllY.i fun Y => ?_)); refine AOps.nil ?_; (repeat refine WN ?_)
        refine AWP.cond_f rfl (by first | rfl | assumption) ?_
        (repeat (first | refine WK ?_ | refine All.i fun X => ?_ | refine AllY.i fun Y => ?_))
        refine lp_next (i + 1) hi2
    · clear hc
      (repeat first | refine AOps.nil ?_ | refine WF ?_)
      have hst := sets_ps act
      have htw := two_ps act
      obtain ⟨sB, hsB⟩ : ∃ b, setsB act = b := ⟨_, rfl⟩
      obtain ⟨tB, htB⟩ : ∃ b, twoOp act = b := ⟨_, rfl⟩
      obtain ⟨c8, hc8⟩ : ∃ b, decide (act = 8) = b := ⟨_, rfl⟩
      obtain ⟨c9, hc9⟩ : ∃ b, decide (act = 9) = b := ⟨_, rfl⟩
      rw [hsB] at hst h6
      rw [htB] at htw h5
      have hk1 : ∀ x : Int, x ∈ s.writes → s.writes.contains x = true := fun x hx => by simpa using hx
      have hcw := fun x => containsI_ps s.writes x (by omega)
      have hcr := fun x => containsI_ps s.reads x (by omega)
      have hsB' := hsB
      have htB' := htB
      have htB0 := htB
      unfold setsB at hsB'
      unfold twoOp at htB'
      cases sB <;> cases tB <;> cases c8 <;> cases c9
      all_goals first
        | (exfalso; (try rw [htB0] at hkk); simp only [Bool.and_eq_true, Bool.or_eq_true, Bool.and_eq_false_iff, Bool.or_eq_false_iff, decide_eq_true_eq, decide_eq_false_iff_not] at hsB' htB' hc8 hc9; first | omega | (revert hkk; simp; done))
        | skip
      · obtain rfl : act = 9 := by simpa using hc9
        obtain ⟨p1, p2, rfl⟩ := h7 (.inr rfl)
        obtain rfl : b = arg0 := h5 rfl
        have k1 : decide (tk < 0) = false := decide_eq_false (by omega)
        have k2 : decide (tk ≥ (ks.map (kindA false)).length) = false := decide_eq_false (by omega)
        (repeat refine WF ?_); refine AWP.region ?_; (repeat (first | refine WO ?_ | refine All.i fun X => ?_ | refine AllY.i fun Y => ?_)); refine AOps.nil ?_; (repeat refine WN ?_)
        (repeat refine WF ?_); refine AWP.region ?_; (repeat (first | (refine AOps.gN ?_; first | (refine AOps.g_callf ?_; first | refine AOps.c1 (h := (hst ..)) (k := ?_) | refine AOps.c1 (h := (htw ..)) (k := ?_)) | refine AOps.go (h := W.neP _ _ (by kernel_rfl) argNe rfl rfl) (k := ?_) | refine AOps.go (h := W.neP _ _ (by kernel_rfl) refNe rfl rfl) (k := ?_)) | (refine AOps.gQ ?_; first | refine AOps.goNU ?_ | refine AOps.goNV ?_) | refine WO ?_ | refine All.i fun X => ?_ | refine AllY.i fun Y => ?_)); refine AOps.nil ?_; (repeat refine WN ?_)
        refine AWP.cond_f rfl (by first | rfl | assumption) ?_
        (repeat refine WF ?_); refine AWP.region ?_; (repeat (first | (refine AOps.gN ?_; first | (refine AOps.g_callf ?_; first | refine AOps.c1 (h := (hst ..)) (k := ?_))) | (refine AOps.gQ ?_; first | refine AOps.goNU ?_ | refine AOps.goNV ?_) | refine WO ?_ | refine All.i fun X => ?_ | refine AllY.i fun Y => ?_)); refine AOps.nil ?_; (repeat refine WN ?_)
        refine AWP.cond_f rfl (by first | rfl | assumption) ?_
        (repeat refine WF ?_); refine AWP.region ?_; (repeat (first | (refine AOps.gN ?_; first | (refine AOps.g_callf ?_; first | refine AOps.c1 (h := (hst ..)) (k := ?_))) | (refine AOps.gQ ?_; first | refine AOps.goNU ?_ | refine AOps.goNV ?_) | refine WO ?_ | refine All.i fun X => ?_ | refine AllY.i fun Y => ?_)); refine AOps.nil ?_; (repeat refine WN ?_)
        refine AWP.cond_f rfl (by first | rfl | assumption) ?_
        (repeat (first | (refine AOps.gN ?_; first | (refine AOps.g_lit ?_; refine AOps.goL2 (argA a) (argA arg0) ?_)) | refine WK ?_ | refine All.i fun X => ?_ | refine AllY.i fun Y => ?_))
        refine AWP.lp (fun i : Nat => ⟨[(0, kindsA false false ks), (4, .fp (sysA false s).cells), (174, .lst false 80 4 [argA a, argA arg0]), (175, iA 2), (176, iA i)], Sf⟩) (fun i => i ≤ 2) (fun i => 2 - i) 0 (by omega) ?_
        rintro i hi
        (repeat (first | refine WK ?_ | refine All.i fun X => ?_ | refine AllY.i fun Y => ?_))
        refine AWP.cond rfl (fun hc => ?_) (fun hc => ?_)
        · have hi2 : i < 2 := by rw [decide_eq_true_eq] at hc; omega
          obtain ⟨⟨xh, xn, xr⟩, hat, hx⟩ := hax i hi2
          obtain ⟨hy, hn⟩ := hx
          dsimp only at hy hn
          have hal : i < [argA a, argA arg0].length := hi2
          (repeat refine WF ?_); refine AWP.region ?_; (repeat (first | refine WO ?_ | refine All.i fun V => ?_ | refine AllY.i fun Y => ?_)); refine AOps.nil ?_; (repeat refine WN ?_)
          cases xh
          · (repeat refine WF ?_); refine AWP.region ?_; (repeat (first | (refine AOps.gQ ?_; first | refine AOps.goNU ?_ | refine AOps.goNV ?_) | refine WO ?_ | refine All.i fun X => ?_ | refine AllY.i fun Y => ?_)); refine AOps.nil ?_; (repeat refine WN ?_)
            refine AWP.cond_f rfl (by first | rfl | assumption) ?_
            (repeat (first | refine WK ?_ | refine All.i fun X => ?_ | refine AllY.i fun Y => ?_))
            refine lp_next (i + 1) hi2
          · obtain ⟨n1, n2, n3⟩ := hy rfl
            have hr1 := hcr xr.kind
            have hr2 := hcw xr.kind
            cases hrr : s.reads.contains xr.kind
            · rw [hrr] at hr1
              rw [show s.writes.contains xr.kind = true from by rcases n3 with e | e; rw [e] at hrr; cases hrr; exact e] at hr2
              (repeat refine WF ?_); refine AWP.region ?_; (repeat (first | (refine AOps.gN ?_; first | (refine AOps.g_callf ?_; first | refine AOps.c2 (h := (hr1 ..)) (k := ?_) | refine AOps.c2 (h := (hr2 ..)) (k := ?_))) | (refine AOps.gQ ?_; first | refine AOps.goNU ?_ | refine AOps.goNV ?_) | refine WO ?_ | refine All.i fun X => ?_ | refine AllY.i fun Y => ?_)); refine AOps.nil ?_; (repeat refine WN ?_)
              refine AWP.cond_f rfl (by first | rfl | assumption) ?_
              (repeat (first | refine WK ?_ | refine All.i fun X => ?_ | refine AllY.i fun Y => ?_))
              refine lp_next (i + 1) hi2
            · rw [hrr] at hr1
              (repeat refine WF ?_); refine AWP.region ?_; (repeat (first | (refine AOps.gN ?_; first | (refine AOps.g_callf ?_; first | refine AOps.c2 (h := (hr1 ..)) (k := ?_))) | (refine AOps.gQ ?_; first | refine AOps.goNU ?_ | refine AOps.goNV ?_) | refine WO ?_ | refine All.i fun X => ?_ | refine AllY.i fun Y => ?_)); refine AOps.nil ?_; (repeat refine WN ?_)
              refine AWP.cond_f rfl (by first | rfl | assumption) ?_
              (repeat (first | refine WK ?_ | refine All.i fun X => ?_ | refine AllY.i fun Y => ?_))
              refine lp_next (i + 1) hi2
        · (repeat (first | refine WK ?_ | refine All.i fun X => ?_ | refine AllY.i fun Y => ?_))
          (refine AWP.ret ?_; (repeat (first | refine inB_r ?_ | refine andThen_r ?_)); refine retQ_r ?_); refine Ends.ps ?_
          rfl
end Go.Proofs.YtkoehhpfjpdkcaaGreat

namespace Go.Proofs.YtkoehhpfjpdkcaaGreat
set_option linter.unusedVariables false
set_option maxRecDepth 4000 in
set_option maxHeartbeats 4000000 in
theorem op2_ps (ks : List Kind) (s : Sys) (o : Op) (h : OpG ks s.reads s.writes o) (hkk : o.act = 8) (hr : s.reads.length ≤ 1099511627776) (hw : s.writes.length ≤ 1099511627776) : PS Tryz.prog 51 [kindsA false false ks, sysA false s, opA o] (iA 0) := by
  obtain ⟨h1, h2, h3, h4, h5, h6, h7, h8⟩ := h
  obtain ⟨act, ⟨tk, tf⟩, a, b⟩ := o
  dsimp only at h1 h2 h3 h4 h5 h6 h7 h8 hkk
  have g1 : decide (act < 0) = false := decide_eq_false (by omega)
  have g2 : decide (act > 12) = false := decide_eq_false (by omega)
  have hax : ∀ i, i < 2 → ∃ x, ([argA a, argA b])[i]? = some (argA x) ∧ ArgG ks s.reads s.writes x := fun i hi => by
    rcases Nat.lt_or_ge i 1 with e | e
    · obtain rfl : i = 0 := by omega
      exact ⟨a, rfl, h3⟩
    · obtain rfl : i = 1 := by omega
      exact ⟨b, rfl, h4⟩
  have hkm : (ks.map (kindA false)).length = ks.length := List.length_map _
  refine Spec.of (nt := 201) (res := [.tmp 6]) Tryz.func51 rfl (by kernel_rfl) rfl rfl rfl fun Sf => ?_
  (repeat refine WF ?_); refine AWP.region ?_; (repeat (first | (refine AOps.gN ?_; first | (refine AOps.g_box ?_; refine AOps.goB ?_)) | refine WO ?_ | refine All.i fun X => ?_ | refine AllY.i fun Y => ?_)); refine AOps.nil ?_; (repeat refine WN ?_)
  (repeat refine WF ?_); refine AWP.region ?_; (repeat (first | refine WO ?_ | refine All.i fun X => ?_ | refine AllY.i fun Y => ?_)); refine AOps.nil ?_; (repeat refine WN ?_)
  refine AWP.cond_f rfl g2 ?_
  (repeat (first | (refine AOps.gN ?_; first | (refine AOps.g_lit ?_; refine AOps.goL2 (argA a) (argA b) ?_)) | refine WK ?_ | refine All.i fun X => ?_ | refine AllY.i fun Y => ?_))
  refine AWP.lp (fun i : Nat => ⟨[(0, kindsA false false ks), (4, .fp (sysA false s).cells), (5, .fp (opA ⟨act, ⟨tk, tf⟩, a, b⟩).cells), (27, .lst false 80 4 [argA a, argA b]), (28, iA 2), (29, iA i)], Sf⟩) (fun i => i ≤ 2) (fun i => 2 - i) 0 (by omega) ?_
  rintro i hi
  (repeat (first | refine WK ?_ | refine All.i fun X => ?_ | refine AllY.i fun Y => ?_))
  refine AWP.cond rfl (fun hc => ?_) (fun hc => ?_)
  · have hi2 : i < 2 := by rw [decide_eq_true_eq] at hc; omega
    obtain ⟨⟨xh, xn, ⟨xk, xf⟩⟩, hat, hx⟩ := hax i hi2
    obtain ⟨hy, hn⟩ := hx
    dsimp only at hy hn
    have hal : i < [argA a, argA b].length := hi2
    (repeat refine WF ?_); refine AWP.region ?_; (repeat (first | refine WO ?_ | refine All.i fun V => ?_ | refine AllY.i fun Y => ?_)); refine AOps.nil ?_; (repeat refine WN ?_)
    cases xh
    · obtain ⟨n1, n2, n3⟩ := hn rfl
      have k1 : decide (xn < -1099511627776) = false := decide_eq_false (by omega)
      have k2 : decide (xn > 1099511627776) = false := decide_eq_false (by omega)
      (repeat refine WF ?_); refine AWP.region ?_; (repeat (first | (refine AOps.gQ ?_; first | refine AOps.goNU ?_ | refine AOps.goNV ?_) | refine WO ?_ | refine All.i fun X => ?_ | refine AllY.i fun Y => ?_)); refine AOps.nil ?_; (repeat refine WN ?_)
      refine AWP.cond_f rfl (by first | rfl | assumption) ?_
      (repeat (first | refine WK ?_ | refine All.i fun X => ?_ | refine AllY.i fun Y => ?_))
      refine lp_next (i + 1) hi2
    · obtain ⟨n1, n2, n3⟩ := hy rfl
      have hf := isField_ps ks ⟨xk, xf⟩ n2
      (repeat refine WF ?_); refine AWP.region ?_; (repeat (first | (refine AOps.gN ?_; first | (refine AOps.g_callf ?_; first | refine AOps.c2 (h := (hf ..)) (k := ?_))) | (refine AOps.gQ ?_; first | refine AOps.goNU ?_ | refine AOps.goNV ?_) | refine WO ?_ | refine All.i fun X => ?_ | refine AllY.i fun Y => ?_)); refine AOps.nil ?_; (repeat refine WN ?_)
      refine AWP.cond_f rfl (by first | rfl | assumption) ?_
      (repeat (first | refine WK ?_ | refine All.i fun X => ?_ | refine AllY.i fun Y => ?_))
      refine lp_next (i + 1) hi2
  · clear hc
    (repeat first | refine AOps.nil ?_ | refine WF ?_)
    (repeat refine WF ?_); refine AWP.region ?_; (repeat (first | refine WO ?_ | refine All.i fun N => ?_ | refine AllY.i fun Y => ?_)); refine AOps.nil ?_; (repeat refine WN ?_)
    (repeat (first | (refine AOps.gN ?_; first | (refine AOps.g_lit ?_; refine AOps.goL2 (argA a) (argA b) ?_)) | refine WK ?_ | refine All.i fun X => ?_ | refine AllY.i fun Y => ?_))
    refine AWP.lp (fun i : Nat => ⟨[(0, kindsA false false ks), (4, .fp (sysA false s).cells), (5, .fp (opA ⟨act, ⟨tk, tf⟩, a, b⟩).cells), (9, .ptr N 0 0), (63, .lst false 80 4 [argA a, argA b]), (64, iA 2), (65, iA i)], (N, .row 78 2 [refA ⟨0, 0⟩]) :: Sf⟩) (fun i => i ≤ 2) (fun i => 2 - i) 0 (by omega) ?_
    rintro i hi
    (repeat (first | refine WK ?_ | refine All.i fun X => ?_ | refine AllY.i fun Y => ?_))
    refine AWP.cond rfl (fun hc => ?_) (fun hc => ?_)
    · have hi2 : i < 2 := by rw [decide_eq_true_eq] at hc; omega
      obtain ⟨⟨xh, xn, xr⟩, hat, hx⟩ := hax i hi2
      obtain ⟨hy, hn⟩ := hx
      dsimp only at hy hn
      have hal : i < [argA a, argA b].length := hi2
      (repeat refine WF ?_); refine AWP.region ?_; (repeat (first | refine WO ?_ | refine All.i fun V => ?_ | refine AllY.i fun Y => ?_)); refine AOps.nil ?_; (repeat refine WN ?_)
      cases xh
      · obtain ⟨n1, n2, n3⟩ := hn rfl
        subst n3
        (repeat refine WF ?_); refine AWP.region ?_; (repeat (first | (refine AOps.gN ?_; first | refine AOps.go (h := W.neP _ _ (by kernel_rfl) refNe rfl rfl) (k := ?_)) | (refine AOps.gQ ?_; first | refine AOps.goNU ?_ | refine AOps.goNV ?_) | refine WO ?_ | refine All.i fun X => ?_ | refine AllY.i fun Y => ?_)); refine AOps.nil ?_; (repeat refine WN ?_)
        refine AWP.cond_f rfl (by first | rfl | assumption) ?_
        (repeat (first | refine WK ?_ | refine All.i fun X => ?_ | refine AllY.i fun Y => ?_))
        refine lp_next (i + 1) hi2
      · obtain ⟨n1, n2, n3⟩ := hy rfl
        subst n1
        (repeat refine WF ?_); refine AWP.region ?_; (repeat (first | (refine AOps.gQ ?_; first | refine AOps.goNU ?_ | refine AOps.goNV ?_) | refine WO ?_ | refine All.i fun X => ?_ | refine AllY.i fun Y => ?_)); refine AOps.nil ?_; (repeat refine WN ?_)
        refine AWP.cond_f rfl (by first | rfl | assumption) ?_
        (repeat (first | refine WK ?_ | refine All.i fun X => ?_ | refine AllY.i fun Y => ?_))
        refine lp_next (i + 1) hi2
    · clear hc
      (repeat first | refine AOps.nil ?_ | refine WF ?_)
      have hst := sets_ps act
      have htw := two_ps act
      obtain ⟨sB, hsB⟩ : ∃ b, setsB act = b := ⟨_, rfl⟩
      obtain ⟨tB, htB⟩ : ∃ b, twoOp act = b := ⟨_, rfl⟩
      obtain ⟨c8, hc8⟩ : ∃ b, decide (act = 8) = b := ⟨_, rfl⟩
      obtain ⟨c9, hc9⟩ : ∃ b, decide (act = 9) = b := ⟨_, rfl⟩
      rw [hsB] at hst h6
      rw [htB] at htw h5
      have hk1 : ∀ x : Int, x ∈ s.writes → s.writes.contains x = true := fun x hx => by simpa using hx
      have hcw := fun x => containsI_ps s.writes x (by omega)
      have hcr := fun x => containsI_ps s.reads x (by omega)
      have hsB' := hsB
      have htB' := htB
      have htB0 := htB
      unfold setsB at hsB'
      unfold twoOp at htB'
      cases sB <;> cases tB <;> cases c8 <;> cases c9
      all_goals first
        | (exfalso; (try rw [htB0] at hkk); simp only [Bool.and_eq_true, Bool.or_eq_true, Bool.and_eq_false_iff, Bool.or_eq_false_iff, decide_eq_true_eq, decide_eq_false_iff_not] at hsB' htB' hc8 hc9; first | omega | (revert hkk; simp; done))
        | skip
      · obtain rfl : act = 8 := by simpa using hc8
        obtain ⟨p1, p2, rfl⟩ := h7 (.inl rfl)
        obtain rfl : b = arg0 := h5 rfl
        have k1 : decide (tk < 0) = false := decide_eq_false (by omega)
        have k2 : decide (tk ≥ (ks.map (kindA false)).length) = false := decide_eq_false (by omega)
        (repeat refine WF ?_); refine AWP.region ?_; (repeat (first | refine WO ?_ | refine All.i fun X => ?_ | refine AllY.i fun Y => ?_)); refine AOps.nil ?_; (repeat refine WN ?_)
        (repeat refine WF ?_); refine AWP.region ?_; (repeat (first | (refine AOps.gN ?_; first | (refine AOps.g_callf ?_; first | refine AOps.c1 (h := (hst ..)) (k := ?_) | refine AOps.c1 (h := (htw ..)) (k := ?_)) | refine AOps.go (h := W.neP _ _ (by kernel_rfl) argNe rfl rfl) (k := ?_) | refine AOps.go (h := W.neP _ _ (by kernel_rfl) refNe rfl rfl) (k := ?_)) | (refine AOps.gQ ?_; first | refine AOps.goNU ?_ | refine AOps.goNV ?_) | refine WO ?_ | refine All.i fun X => ?_ | refine AllY.i fun Y => ?_)); refine AOps.nil ?_; (repeat refine WN ?_)
        refine AWP.cond_f rfl (by first | rfl | assumption) ?_
        (repeat refine WF ?_); refine AWP.region ?_; (repeat (first | (refine AOps.gN ?_; first | (refine AOps.g_callf ?_; first | refine AOps.c1 (h := (hst ..)) (k := ?_))) | (refine AOps.gQ ?_; first | refine AOps.goNU ?_ | refine AOps.goNV ?_) | refine WO ?_ | refine All.i fun X => ?_ | refine AllY.i fun Y => ?_)); refine AOps.nil ?_; (repeat refine WN ?_)
        refine AWP.cond_f rfl (by first | rfl | assumption) ?_
        (repeat refine WF ?_); refine AWP.region ?_; (repeat (first | (refine AOps.gN ?_; first | (refine AOps.g_callf ?_; first | refine AOps.c1 (h := (hst ..)) (k := ?_))) | (refine AOps.gQ ?_; first | refine AOps.goNU ?_ | refine AOps.goNV ?_) | refine WO ?_ | refine All.i fun X => ?_ | refine AllY.i fun Y => ?_)); refine AOps.nil ?_; (repeat refine WN ?_)
        refine AWP.cond_f rfl (by first | rfl | assumption) ?_
        (repeat (first | (refine AOps.gN ?_; first | (refine AOps.g_lit ?_; refine AOps.goL2 (argA a) (argA arg0) ?_)) | refine WK ?_ | refine All.i fun X => ?_ | refine AllY.i fun Y => ?_))
        refine AWP.lp (fun i : Nat => ⟨[(0, kindsA false false ks), (4, .fp (sysA false s).cells), (174, .lst false 80 4 [argA a, argA arg0]), (175, iA 2), (176, iA i)], Sf⟩) (fun i => i ≤ 2) (fun i => 2 - i) 0 (by omega) ?_
        rintro i hi
        (repeat (first | refine WK ?_ | refine All.i fun X => ?_ | refine AllY.i fun Y => ?_))
        refine AWP.cond rfl (fun hc => ?_) (fun hc => ?_)
        · have hi2 : i < 2 := by rw [decide_eq_true_eq] at hc; omega
          obtain ⟨⟨xh, xn, xr⟩, hat, hx⟩ := hax i hi2
          obtain ⟨hy, hn⟩ := hx
          dsimp only at hy hn
          have hal : i < [argA a, argA arg0].length := hi2
          (repeat refine WF ?_); refine AWP.region ?_; (repeat (first | refine WO ?_ | refine All.i fun V => ?_ | refine AllY.i fun Y => ?_)); refine AOps.nil ?_; (repeat refine WN ?_)
          cases xh
          · (repeat refine WF ?_); refine AWP.region ?_; (repeat (first | (refine AOps.gQ ?_; first | refine AOps.goNU ?_ | refine AOps.goNV ?_) | refine WO ?_ | refine All.i fun X => ?_ | refine AllY.i fun Y => ?_)); refine AOps.nil ?_; (repeat refine WN ?_)
            refine AWP.cond_f rfl (by first | rfl | assumption) ?_
            (repeat (first | refine WK ?_ | refine All.i fun X => ?_ | refine AllY.i fun Y => ?_))
            refine lp_next (i + 1) hi2
          · obtain ⟨n1, n2, n3⟩ := hy rfl
            have hr1 := hcr xr.kind
            have hr2 := hcw xr.kind
            cases hrr : s.reads.contains xr.kind
            · rw [hrr] at hr1
              rw [show s.writes.contains xr.kind = true from by rcases n3 with e | e; rw [e] at hrr; cases hrr; exact e] at hr2
              (repeat refine WF ?_); refine AWP.region ?_; (repeat (first | (refine AOps.gN ?_; first | (refine AOps.g_callf ?_; first | refine AOps.c2 (h := (hr1 ..)) (k := ?_) | refine AOps.c2 (h := (hr2 ..)) (k := ?_))) | (refine AOps.gQ ?_; first | refine AOps.goNU ?_ | refine AOps.goNV ?_) | refine WO ?_ | refine All.i fun X => ?_ | refine AllY.i fun Y => ?_)); refine AOps.nil ?_; (repeat refine WN ?_)
              refine AWP.cond_f rfl (by first | rfl | assumption) ?_
              (repeat (first | refine WK ?_ | refine All.i fun X => ?_ | refine AllY.i fun Y => ?_))
              refine lp_next (i + 1) hi2
            · rw [hrr] at hr1
              (repeat refine WF ?_); refine AWP.region ?_; (repeat (first | (refine AOps.gN ?_; first | (refine AOps.g_callf ?_; first | refine AOps.c2 (h := (hr1 ..)) (k := ?_))) | (refine AOps.gQ ?_; first | refine AOps.goNU ?_ | refine AOps.goNV ?_) | refine WO ?_ | refine All.i fun X => ?_ | refine AllY.i fun Y => ?_)); refine AOps.nil ?_; (repeat refine WN ?_)
              refine AWP.cond_f rfl (by first | rfl | assumption) ?_
              (repeat (first | refine WK ?_ | refine All.i fun X => ?_ | refine AllY.i fun Y => ?_))
              refine lp_next (i + 1) hi2
        · (repeat (first | refine WK ?_ | refine All.i fun X => ?_ | refine AllY.i fun Y => ?_))
          (refine AWP.ret ?_; (repeat (first | refine inB_r ?_ | refine andThen_r ?_)); refine retQ_r ?_); refine Ends.ps ?_
          rfl
end Go.Proofs.YtkoehhpfjpdkcaaGreat

namespace Go.Proofs.YtkoehhpfjpdkcaaGreat
set_option linter.unusedVariables false
set_option maxRecDepth 4000 in
set_option maxHeartbeats 4000000 in
theorem op3_ps (ks : List Kind) (s : Sys) (o : Op) (h : OpG ks s.reads s.writes o) (hkk : o.act = 12) (hr : s.reads.length ≤ 1099511627776) (hw : s.writes.length ≤ 1099511627776) : PS Tryz.prog 51 [kindsA false false ks, sysA false s, opA o] (iA 0) := by
  obtain ⟨h1, h2, h3, h4, h5, h6, h7, h8⟩ := h
  obtain ⟨act, ⟨tk, tf⟩, a, b⟩ := o
  dsimp only at h1 h2 h3 h4 h5 h6 h7 h8 hkk
  have g1 : decide (act < 0) = false := decide_eq_false (by omega)
  have g2 : decide (act > 12) = false := decide_eq_false (by omega)
  have hax : ∀ i, i < 2 → ∃ x, ([argA a, argA b])[i]? = some (argA x) ∧ ArgG ks s.reads s.writes x := fun i hi => by
    rcases Nat.lt_or_ge i 1 with e | e
    · obtain rfl : i = 0 := by omega
      exact ⟨a, rfl, h3⟩
    · obtain rfl : i = 1 := by omega
      exact ⟨b, rfl, h4⟩
  have hkm : (ks.map (kindA false)).length = ks.length := List.length_map _
  refine Spec.of (nt := 201) (res := [.tmp 6]) Tryz.func51 rfl (by kernel_rfl) rfl rfl rfl fun Sf => ?_
  (repeat refine WF ?_); refine AWP.region ?_; (repeat (first | (refine AOps.gN ?_; first | (refine AOps.g_box ?_; refine AOps.goB ?_)) | refine WO ?_ | refine All.i fun X => ?_ | refine AllY.i fun Y => ?_)); refine AOps.nil ?_; (repeat refine WN ?_)
  (repeat refine WF ?_); refine AWP.region ?_; (repeat (first | refine WO ?_ | refine All.i fun X => ?_ | refine AllY.i fun Y => ?_)); refine AOps.nil ?_; (repeat refine WN ?_)
  refine AWP.cond_f rfl g2 ?_
  (repeat (first | (refine AOps.gN ?_; first | (refine AOps.g_lit ?_; refine AOps.goL2 (argA a) (argA b) ?_)) | refine WK ?_ | refine All.i fun X => ?_ | refine AllY.i fun Y => ?_))
  refine AWP.lp (fun i : Nat => ⟨[(0, kindsA false false ks), (4, .fp (sysA false s).cells), (5, .fp (opA ⟨act, ⟨tk, tf⟩, a, b⟩).cells), (27, .lst false 80 4 [argA a, argA b]), (28, iA 2), (29, iA i)], Sf⟩) (fun i => i ≤ 2) (fun i => 2 - i) 0 (by omega) ?_
  rintro i hi
  (repeat (first | refine WK ?_ | refine All.i fun X => ?_ | refine AllY.i fun Y => ?_))
  refine AWP.cond rfl (fun hc => ?_) (fun hc => ?_)
  · have hi2 : i < 2 := by rw [decide_eq_true_eq] at hc; omega
    obtain ⟨⟨xh, xn, ⟨xk, xf⟩⟩, hat, hx⟩ := hax i hi2
    obtain ⟨hy, hn⟩ := hx
    dsimp only at hy hn
    have hal : i < [argA a, argA b].length := hi2
    (repeat refine WF ?_); refine AWP.region ?_; (repeat (first | refine WO ?_ | refine All.i fun V => ?_ | refine AllY.i fun Y => ?_)); refine AOps.nil ?_; (repeat refine WN ?_)
    cases xh
    · obtain ⟨n1, n2, n3⟩ := hn rfl
      have k1 : decide (xn < -1099511627776) = false := decide_eq_false (by omega)
      have k2 : decide (xn > 1099511627776) = false := decide_eq_false (by omega)
      (repeat refine WF ?_); refine AWP.region ?_; (repeat (first | (refine AOps.gQ ?_; first | refine AOps.goNU ?_ | refine AOps.goNV ?_) | refine WO ?_ | refine All.i fun X => ?_ | refine AllY.i fun Y => ?_)); refine AOps.nil ?_; (repeat refine WN ?_)
      refine AWP.cond_f rfl (by first | rfl | assumption) ?_
      (repeat (first | refine WK ?_ | refine All.i fun X => ?_ | refine AllY.i fun Y => ?_))
      refine lp_next (i + 1) hi2
    · obtain ⟨n1, n2, n3⟩ := hy rfl
      have hf := isField_ps ks ⟨xk, xf⟩ n2
      (repeat refine WF ?_); refine AWP.region ?_; (repeat (first | (refine AOps.gN ?_; first | (refine AOps.g_callf ?_; first | refine AOps.c2 (h := (hf ..)) (k := ?_))) | (refine AOps.gQ ?_; first | refine AOps.goNU ?_ | refine AOps.goNV ?_) | refine WO ?_ | refine All.i fun X => ?_ | refine AllY.i fun Y => ?_)); refine AOps.nil ?_; (repeat refine WN ?_)
      refine AWP.cond_f rfl (by first | rfl | assumption) ?_
      (repeat (first | refine WK ?_ | refine All.i fun X => ?_ | refine AllY.i fun Y => ?_))
      refine lp_next (i + 1) hi2
  · clear hc
    (repeat first | refine AOps.nil ?_ | refine WF ?_)
    (repeat refine WF ?_); refine AWP.region ?_; (repeat (first | refine WO ?_ | refine All.i fun N => ?_ | refine AllY.i fun Y => ?_)); refine AOps.nil ?_; (repeat refine WN ?_)
    (repeat (first | (refine AOps.gN ?_; first | (refine AOps.g_lit ?_; refine AOps.goL2 (argA a) (argA b) ?_)) | refine WK ?_ | refine All.i fun X => ?_ | refine AllY.i fun Y => ?_))
    refine AWP.lp (fun i : Nat => ⟨[(0, kindsA false false ks), (4, .fp (sysA false s).cells), (5, .fp (opA ⟨act, ⟨tk, tf⟩, a, b⟩).cells), (9, .ptr N 0 0), (63, .lst false 80 4 [argA a, argA b]), (64, iA 2), (65, iA i)], (N, .row 78 2 [refA ⟨0, 0⟩]) :: Sf⟩) (fun i => i ≤ 2) (fun i => 2 - i) 0 (by omega) ?_
    rintro i hi
    (repeat (first | refine WK ?_ | refine All.i fun X => ?_ | refine AllY.i fun Y => ?_))
    refine AWP.cond rfl (fun hc => ?_) (fun hc => ?_)
    · have hi2 : i < 2 := by rw [decide_eq_true_eq] at hc; omega
      obtain ⟨⟨xh, xn, xr⟩, hat, hx⟩ := hax i hi2
      obtain ⟨hy, hn⟩ := hx
      dsimp only at hy hn
      have hal : i < [argA a, argA b].length := hi2
      (repeat refine WF ?_); refine AWP.region ?_; (repeat (first | refine WO ?_ | refine All.i fun V => ?_ | refine AllY.i fun Y => ?_)); refine AOps.nil ?_; (repeat refine WN ?_)
      cases xh
      · obtain ⟨n1, n2, n3⟩ := hn rfl
        subst n3
        (repeat refine WF ?_); refine AWP.region ?_; (repeat (first | (refine AOps.gN ?_; first | refine AOps.go (h := W.neP _ _ (by kernel_rfl) refNe rfl rfl) (k := ?_)) | (refine AOps.gQ ?_; first | refine AOps.goNU ?_ | refine AOps.goNV ?_) | refine WO ?_ | refine All.i fun X => ?_ | refine AllY.i fun Y => ?_)); refine AOps.nil ?_; (repeat refine WN ?_)
        refine AWP.cond_f rfl (by first | rfl | assumption) ?_
        (repeat (first | refine WK ?_ | refine All.i fun X => ?_ | refine AllY.i fun Y => ?_))
        refine lp_next (i + 1) hi2
      · obtain ⟨n1, n2, n3⟩ := hy rfl
        subst n1
        (repeat refine WF ?_); refine AWP.region ?_; (repeat (first | (refine AOps.gQ ?_; first | refine AOps.goNU ?_ | refine AOps.goNV ?_) | refine WO ?_ | refine All.i fun X => ?_ | refine AllY.i fun Y => ?_)); refine AOps.nil ?_; (repeat refine WN ?_)
        refine AWP.cond_f rfl (by first | rfl | assumption) ?_
        (repeat (first | refine WK ?_ | refine All.i fun X => ?_ | refine AllY.i fun Y => ?_))
        refine lp_next (i + 1) hi2
    · clear hc
      (repeat first | refine AOps.nil ?_ | refine WF ?_)
      have hst := sets_ps act
      have htw := two_ps act
      obtain ⟨sB, hsB⟩ : ∃ b, setsB act = b := ⟨_, rfl⟩
      obtain ⟨tB, htB⟩ : ∃ b, twoOp act = b := ⟨_, rfl⟩
      obtain ⟨c8, hc8⟩ : ∃ b, decide (act = 8) = b := ⟨_, rfl⟩
      obtain ⟨c9, hc9⟩ : ∃ b, decide (act = 9) = b := ⟨_, rfl⟩
      rw [hsB] at hst h6
      rw [htB] at htw h5
      have hk1 : ∀ x : Int, x ∈ s.writes → s.writes.contains x = true := fun x hx => by simpa using hx
      have hcw := fun x => containsI_ps s.writes x (by omega)
      have hcr := fun x => containsI_ps s.reads x (by omega)
      have hsB' := hsB
      have htB' := htB
      have htB0 := htB
      unfold setsB at hsB'
      unfold twoOp at htB'
      cases sB <;> cases tB <;> cases c8 <;> cases c9
      all_goals first
        | (exfalso; (try rw [htB0] at hkk); simp only [Bool.and_eq_true, Bool.or_eq_true, Bool.and_eq_false_iff, Bool.or_eq_false_iff, decide_eq_true_eq, decide_eq_false_iff_not] at hsB' htB' hc8 hc9; first | omega | (revert hkk; simp; done))
        | skip
      · have ht0 := h8 (by simp only [decide_eq_false_iff_not, Bool.and_eq_false_iff] at hc8 hc9 hsB'; omega)
        injection ht0 with ht1 ht2
        subst ht1 ht2
        have hn9 : (!decide (act = 9)) = true := by rw [hc9]; rfl
        (repeat refine WF ?_); refine AWP.region ?_; (repeat (first | refine WO ?_ | refine All.i fun X => ?_ | refine AllY.i fun Y => ?_)); refine AOps.nil ?_; (repeat refine WN ?_)
        (repeat refine WF ?_); refine AWP.region ?_; (repeat (first | (refine AOps.gN ?_; first | (refine AOps.g_callf ?_; first | refine AOps.c1 (h := (hst ..)) (k := ?_) | refine AOps.c1 (h := (htw ..)) (k := ?_)) | refine AOps.go (h := W.neP _ _ (by kernel_rfl) argNe rfl rfl) (k := ?_) | refine AOps.go (h := W.neP _ _ (by kernel_rfl) refNe rfl rfl) (k := ?_)) | (refine AOps.gQ ?_; first | refine AOps.goNU ?_ | refine AOps.goNV ?_) | refine WO ?_ | refine All.i fun X => ?_ | refine AllY.i fun Y => ?_)); refine AOps.nil ?_; (repeat refine WN ?_)
        refine AWP.cond_f rfl (by first | rfl | assumption) ?_
        (repeat refine WF ?_); refine AWP.region ?_; (repeat (first | (refine AOps.gN ?_; first | (refine AOps.g_callf ?_; first | refine AOps.c1 (h := (hst ..)) (k := ?_))) | (refine AOps.gQ ?_; first | refine AOps.goNU ?_ | refine AOps.goNV ?_) | refine WO ?_ | refine All.i fun X => ?_ | refine AllY.i fun Y => ?_)); refine AOps.nil ?_; (repeat refine WN ?_)
        refine AWP.cond_f rfl (by first | rfl | assumption) ?_
        (repeat refine WF ?_); refine AWP.region ?_; (repeat (first | (refine AOps.gN ?_; first | (refine AOps.g_callf ?_; first | refine AOps.c1 (h := (hst ..)) (k := ?_))) | (refine AOps.gQ ?_; first | refine AOps.goNU ?_ | refine AOps.goNV ?_) | refine WO ?_ | refine All.i fun X => ?_ | refine AllY.i fun Y => ?_)); refine AOps.nil ?_; (repeat refine WN ?_)
        refine AWP.cond_f rfl (by first | rfl | assumption) ?_
        (repeat (first | (refine AOps.gN ?_; first | (refine AOps.g_lit ?_; refine AOps.goL2 (argA a) (argA b) ?_)) | refine WK ?_ | refine All.i fun X => ?_ | refine AllY.i fun Y => ?_))
        refine AWP.lp (fun i : Nat => ⟨[(0, kindsA false false ks), (4, .fp (sysA false s).cells), (174, .lst false 80 4 [argA a, argA b]), (175, iA 2), (176, iA i)], Sf⟩) (fun i => i ≤ 2) (fun i => 2 - i) 0 (by omega) ?_
        rintro i hi
        (repeat (first | refine WK ?_ | refine All.i fun X => ?_ | refine AllY.i fun Y => ?_))
        refine AWP.cond rfl (fun hc => ?_) (fun hc => ?_)
        · have hi2 : i < 2 := by rw [decide_eq_true_eq] at hc; omega
          obtain ⟨⟨xh, xn, xr⟩, hat, hx⟩ := hax i hi2
          obtain ⟨hy, hn⟩ := hx
          dsimp only at hy hn
          have hal : i < [argA a, argA b].length := hi2
          (repeat refine WF ?_); refine AWP.region ?_; (repeat (first | refine WO ?_ | refine All.i fun V => ?_ | refine AllY.i fun Y => ?_)); refine AOps.nil ?_; (repeat refine WN ?_)
          cases xh
          · (repeat refine WF ?_); refine AWP.region ?_; (repeat (first | (refine AOps.gQ ?_; first | refine AOps.goNU ?_ | refine AOps.goNV ?_) | refine WO ?_ | refine All.i fun X => ?_ | refine AllY.i fun Y => ?_)); refine AOps.nil ?_; (repeat refine WN ?_)
            refine AWP.cond_f rfl (by first | rfl | assumption) ?_
            (repeat (first | refine WK ?_ | refine All.i fun X => ?_ | refine AllY.i fun Y => ?_))
            refine lp_next (i + 1) hi2
          · obtain ⟨n1, n2, n3⟩ := hy rfl
            have hr1 := hcr xr.kind
            have hr2 := hcw xr.kind
            cases hrr : s.reads.contains xr.kind
            · rw [hrr] at hr1
              rw [show s.writes.contains xr.kind = true from by rcases n3 with e | e; rw [e] at hrr; cases hrr; exact e] at hr2
              (repeat refine WF ?_); refine AWP.region ?_; (repeat (first | (refine AOps.gN ?_; first | (refine AOps.g_callf ?_; first | refine AOps.c2 (h := (hr1 ..)) (k := ?_) | refine AOps.c2 (h := (hr2 ..)) (k := ?_))) | (refine AOps.gQ ?_; first | refine AOps.goNU ?_ | refine AOps.goNV ?_) | refine WO ?_ | refine All.i fun X => ?_ | refine AllY.i fun Y => ?_)); refine AOps.nil ?_; (repeat refine WN ?_)
              refine AWP.cond_f rfl (by first | rfl | assumption) ?_
              (repeat (first | refine WK ?_ | refine All.i fun X => ?_ | refine AllY.i fun Y => ?_))
              refine lp_next (i + 1) hi2
            · rw [hrr] at hr1
              (repeat refine WF ?_); refine AWP.region ?_; (repeat (first | (refine AOps.gN ?_; first | (refine AOps.g_callf ?_; first | refine AOps.c2 (h := (hr1 ..)) (k := ?_))) | (refine AOps.gQ ?_; first | refine AOps.goNU ?_ | refine AOps.goNV ?_) | refine WO ?_ | refine All.i fun X => ?_ | refine AllY.i fun Y => ?_)); refine AOps.nil ?_; (repeat refine WN ?_)
              refine AWP.cond_f rfl (by first | rfl | assumption) ?_
              (repeat (first | refine WK ?_ | refine All.i fun X => ?_ | refine AllY.i fun Y => ?_))
              refine lp_next (i + 1) hi2
        · (repeat (first | refine WK ?_ | refine All.i fun X => ?_ | refine AllY.i fun Y => ?_))
          (refine AWP.ret ?_; (repeat (first | refine inB_r ?_ | refine andThen_r ?_)); refine retQ_r ?_); refine Ends.ps ?_
          rfl
end Go.Proofs.YtkoehhpfjpdkcaaGreat

namespace Go.Proofs.YtkoehhpfjpdkcaaGreat
set_option linter.unusedVariables false
set_option maxRecDepth 4000 in
set_option maxHeartbeats 4000000 in
theorem op4_ps (ks : List Kind) (s : Sys) (o : Op) (h : OpG ks s.reads s.writes o) (hkk : o.act ≤ 7 ∧ twoOp o.act = false) (hr : s.reads.length ≤ 1099511627776) (hw : s.writes.length ≤ 1099511627776) : PS Tryz.prog 51 [kindsA false false ks, sysA false s, opA o] (iA 0) := by
  obtain ⟨h1, h2, h3, h4, h5, h6, h7, h8⟩ := h
  obtain ⟨act, ⟨tk, tf⟩, a, b⟩ := o
  dsimp only at h1 h2 h3 h4 h5 h6 h7 h8 hkk
  have g1 : decide (act < 0) = false := decide_eq_false (by omega)
  have g2 : decide (act > 12) = false := decide_eq_false (by omega)
  have hax : ∀ i, i < 2 → ∃ x, ([argA a, argA b])[i]? = some (argA x) ∧ ArgG ks s.reads s.writes x := fun i hi => by
    rcases Nat.lt_or_ge i 1 with e | e
    · obtain rfl : i = 0 := by omega
      exact ⟨a, rfl, h3⟩
    · obtain rfl : i = 1 := by omega
      exact ⟨b, rfl, h4⟩
  have hkm : (ks.map (kindA false)).length = ks.length := List.length_map _
  refine Spec.of (nt := 201) (res := [.tmp 6]) Tryz.func51 rfl (by kernel_rfl) rfl rfl rfl fun Sf => ?_
  (repeat refine WF ?_); refine AWP.region ?_; (repeat (first | (refine AOps.gN ?_; first | (refine AOps.g_box ?_; refine AOps.goB ?_)) | refine WO ?_ | refine All.i fun X => ?_ | refine AllY.i fun Y => ?_)); refine AOps.nil ?_; (repeat refine WN ?_)
  (repeat refine WF ?_); refine AWP.region ?_; (repeat (first | refine WO ?_ | refine All.i fun X => ?_ | refine AllY.i fun Y => ?_)); refine AOps.nil ?_; (repeat refine WN ?_)
  refine AWP.cond_f rfl g2 ?_
  (repeat (first | (refine AOps.gN ?_; first | (refine AOps.g_lit ?_; refine AOps.goL2 (argA a) (argA b) ?_)) | refine WK ?_ | refine All.i fun X => ?_ | refine AllY.i fun Y => ?_))
  refine AWP.lp (fun i : Nat => ⟨[(0, kindsA false false ks), (4, .fp (sysA false s).cells), (5, .fp (opA ⟨act, ⟨tk, tf⟩, a, b⟩).cells), (27, .lst false 80 4 [argA a, argA b]), (28, iA 2), (29, iA i)], Sf⟩) (fun i => i ≤ 2) (fun i => 2 - i) 0 (by omega) ?_
  rintro i hi
  (repeat (first | refine WK ?_ | refine All.i fun X => ?_ | refine AllY.i fun Y => ?_))
  refine AWP.cond rfl (fun hc => ?_) (fun hc => ?_)
  · have hi2 : i < 2 := by rw [decide_eq_true_eq] at hc; omega
    obtain ⟨⟨xh, xn, ⟨xk, xf⟩⟩, hat, hx⟩ := hax i hi2
    obtain ⟨hy, hn⟩ := hx
    dsimp only at hy hn
    have hal : i < [argA a, argA b].length := hi2
    (repeat refine WF ?_); refine AWP.region ?_; (repeat (first | refine WO ?_ | refine All.i fun V => ?_ | refine AllY.i fun Y => ?_)); refine AOps.nil ?_; (repeat refine WN ?_)
    cases xh
    · obtain ⟨n1, n2, n3⟩ := hn rfl
      have k1 : decide (xn < -1099511627776) = false := decide_eq_false (by omega)
      have k2 : decide (xn > 1099511627776) = false := decide_eq_false (by omega)
      (repeat refine WF ?_); refine AWP.region ?_; (repeat (first | (refine AOps.gQ ?_; first | refine AOps.goNU ?_ | refine AOps.goNV ?_) | refine WO ?_ | refine All.i fun X => ?_ | refine AllY.i fun Y => ?_)); refine AOps.nil ?_; (repeat refine WN ?_)
      refine AWP.cond_f rfl (by first | rfl | assumption) ?_
      (repeat (first | refine WK ?_ | refine All.i fun X => ?_ | refine AllY.i fun Y => ?_))
      refine lp_next (i + 1) hi2
    · obtain ⟨n1, n2, n3⟩ := hy rfl
      have hf := isField_ps ks ⟨xk, xf⟩ n2
      (repeat refine WF ?_); refine AWP.region ?_; (repeat (first | (refine AOps.gN ?_; first | (refine AOps.g_callf ?_; first | refine AOps.c2 (h := (hf ..)) (k := ?_))) | (refine AOps.gQ ?_; first | refine AOps.goNU ?_ | refine AOps.goNV ?_) | refine WO ?_ | refine All.i fun X => ?_ | refine AllY.i fun Y => ?_)); refine AOps.nil ?_; (repeat refine WN ?_)
      refine AWP.cond_f rfl (by first | rfl | assumption) ?_
      (repeat (first | refine WK ?_ | refine All.i fun X => ?_ | refine AllY.i fun Y => ?_))
      refine lp_next (i + 1) hi2
  · clear hc
    (repeat first | refine AOps.nil ?_ | refine WF ?_)
    (repeat refine WF ?_); refine AWP.region ?_; (repeat (first | refine WO ?_ | refine All.i fun N => ?_ | refine AllY.i fun Y => ?_)); refine AOps.nil ?_; (repeat refine WN ?_)
    (repeat (first | (refine AOps.gN ?_; first | (refine AOps.g_lit ?_; refine AOps.goL2 (argA a) (argA b) ?_)) | refine WK ?_ | refine All.i fun X => ?_ | refine AllY.i fun Y => ?_))
    refine AWP.lp (fun i : Nat => ⟨[(0, kindsA false false ks), (4, .fp (sysA false s).cells), (5, .fp (opA ⟨act, ⟨tk, tf⟩, a, b⟩).cells), (9, .ptr N 0 0), (63, .lst false 80 4 [argA a, argA b]), (64, iA 2), (65, iA i)], (N, .row 78 2 [refA ⟨0, 0⟩]) :: Sf⟩) (fun i => i ≤ 2) (fun i => 2 - i) 0 (by omega) ?_
    rintro i hi
    (repeat (first | refine WK ?_ | refine All.i fun X => ?_ | refine AllY.i fun Y => ?_))
    refine AWP.cond rfl (fun hc => ?_) (fun hc => ?_)
    · have hi2 : i < 2 := by rw [decide_eq_true_eq] at hc; omega
      obtain ⟨⟨xh, xn, xr⟩, hat, hx⟩ := hax i hi2
      obtain ⟨hy, hn⟩ := hx
      dsimp only at hy hn
      have hal : i < [argA a, argA b].length := hi2
      (repeat refine WF ?_); refine AWP.region ?_; (repeat (first | refine WO ?_ | refine All.i fun V => ?_ | refine AllY.i fun Y => ?_)); refine AOps.nil ?_; (repeat refine WN ?_)
      cases xh
      · obtain ⟨n1, n2, n3⟩ := hn rfl
        subst n3
        (repeat refine WF ?_); refine AWP.region ?_; (repeat (first | (refine AOps.gN ?_; first | refine AOps.go (h := W.neP _ _ (by kernel_rfl) refNe rfl rfl) (k := ?_)) | (refine AOps.gQ ?_; first | refine AOps.goNU ?_ | refine AOps.goNV ?_) | refine WO ?_ | refine All.i fun X => ?_ | refine AllY.i fun Y => ?_)); refine AOps.nil ?_; (repeat refine WN ?_)
        refine AWP.cond_f rfl (by first | rfl | assumption) ?_
        (repeat (first | refine WK ?_ | refine All.i fun X => ?_ | refine AllY.i fun Y => ?_))
        refine lp_next (i + 1) hi2
      · obtain ⟨n1, n2, n3⟩ := hy rfl
        subst n1
        (repeat refine WF ?_); refine AWP.region ?_; (repeat (first | (refine AOps.gQ ?_; first | refine AOps.goNU ?_ | refine AOps.goNV ?_) | refine WO ?_ | refine All.i fun X => ?_ | refine AllY.i fun Y => ?_)); refine AOps.nil ?_; (repeat refine WN ?_)
        refine AWP.cond_f rfl (by first | rfl | assumption) ?_
        (repeat (first | refine WK ?_ | refine All.i fun X => ?_ | refine AllY.i fun Y => ?_))
        refine lp_next (i + 1) hi2
    · clear hc
      (repeat first | refine AOps.nil ?_ | refine WF ?_)
      have hst := sets_ps act
      have htw := two_ps act
      obtain ⟨sB, hsB⟩ : ∃ b, setsB act = b := ⟨_, rfl⟩
      obtain ⟨tB, htB⟩ : ∃ b, twoOp act = b := ⟨_, rfl⟩
      obtain ⟨c8, hc8⟩ : ∃ b, decide (act = 8) = b := ⟨_, rfl⟩
      obtain ⟨c9, hc9⟩ : ∃ b, decide (act = 9) = b := ⟨_, rfl⟩
      rw [hsB] at hst h6
      rw [htB] at htw h5
      have hk1 : ∀ x : Int, x ∈ s.writes → s.writes.contains x = true := fun x hx => by simpa using hx
      have hcw := fun x => containsI_ps s.writes x (by omega)
      have hcr := fun x => containsI_ps s.reads x (by omega)
      have hsB' := hsB
      have htB' := htB
      have htB0 := htB
      unfold setsB at hsB'
      unfold twoOp at htB'
      cases sB <;> cases tB <;> cases c8 <;> cases c9
      all_goals first
        | (exfalso; (try rw [htB0] at hkk); simp only [Bool.and_eq_true, Bool.or_eq_true, Bool.and_eq_false_iff, Bool.or_eq_false_iff, decide_eq_true_eq, decide_eq_false_iff_not] at hsB' htB' hc8 hc9; first | omega | (revert hkk; simp; done))
        | skip
      · obtain rfl : b = arg0 := h5 rfl
        obtain ⟨hR, hW⟩ := h6 rfl
        have hf := isField_ps ks ⟨tk, tf⟩ hR
        have hcw1 := hcw tk
        rw [hW] at hcw1
        (repeat refine WF ?_); refine AWP.region ?_; (repeat (first | refine WO ?_ | refine All.i fun X => ?_ | refine AllY.i fun Y => ?_)); refine AOps.nil ?_; (repeat refine WN ?_)
        (repeat refine WF ?_); refine AWP.region ?_; (repeat (first | (refine AOps.gN ?_; first | (refine AOps.g_callf ?_; first | refine AOps.c1 (h := (hst ..)) (k := ?_) | refine AOps.c1 (h := (htw ..)) (k := ?_)) | refine AOps.go (h := W.neP _ _ (by kernel_rfl) argNe rfl rfl) (k := ?_) | refine AOps.go (h := W.neP _ _ (by kernel_rfl) refNe rfl rfl) (k := ?_)) | (refine AOps.gQ ?_; first | refine AOps.goNU ?_ | refine AOps.goNV ?_) | refine WO ?_ | refine All.i fun X => ?_ | refine AllY.i fun Y => ?_)); refine AOps.nil ?_; (repeat refine WN ?_)
        refine AWP.cond_f rfl (by first | rfl | assumption) ?_
        (repeat refine WF ?_); refine AWP.region ?_; (repeat (first | (refine AOps.gN ?_; first | (refine AOps.g_callf ?_; first | refine AOps.c1 (h := (hst ..)) (k := ?_) | refine AOps.c2 (h := (hf ..)) (k := ?_))) | (refine AOps.gQ ?_; first | refine AOps.goNU ?_ | refine AOps.goNV ?_) | refine WO ?_ | refine All.i fun X => ?_ | refine AllY.i fun Y => ?_)); refine AOps.nil ?_; (repeat refine WN ?_)
        refine AWP.cond_f rfl (by first | rfl | assumption) ?_
        (repeat refine WF ?_); refine AWP.region ?_; (repeat (first | (refine AOps.gN ?_; first | (refine AOps.g_callf ?_; first | refine AOps.c1 (h := (hst ..)) (k := ?_) | refine AOps.c2 (h := (hcw1 ..)) (k := ?_))) | (refine AOps.gQ ?_; first | refine AOps.goNU ?_ | refine AOps.goNV ?_) | refine WO ?_ | refine All.i fun X => ?_ | refine AllY.i fun Y => ?_)); refine AOps.nil ?_; (repeat refine WN ?_)
        refine AWP.cond_f rfl (by first | rfl | assumption) ?_
        (repeat (first | (refine AOps.gN ?_; first | (refine AOps.g_lit ?_; refine AOps.goL2 (argA a) (argA arg0) ?_)) | refine WK ?_ | refine All.i fun X => ?_ | refine AllY.i fun Y => ?_))
        refine AWP.lp (fun i : Nat => ⟨[(0, kindsA false false ks), (4, .fp (sysA false s).cells), (174, .lst false 80 4 [argA a, argA arg0]), (175, iA 2), (176, iA i)], Sf⟩) (fun i => i ≤ 2) (fun i => 2 - i) 0 (by omega) ?_
        rintro i hi
        (repeat (first | refine WK ?_ | refine All.i fun X => ?_ | refine AllY.i fun Y => ?_))
        refine AWP.cond rfl (fun hc => ?_) (fun hc => ?_)
        · have hi2 : i < 2 := by rw [decide_eq_true_eq] at hc; omega
          obtain ⟨⟨xh, xn, xr⟩, hat, hx⟩ := hax i hi2
          obtain ⟨hy, hn⟩ := hx
          dsimp only at hy hn
          have hal : i < [argA a, argA arg0].length := hi2
          (repeat refine WF ?_); refine AWP.region ?_; (repeat (first | refine WO ?_ | refine All.i fun V => ?_ | refine AllY.i fun Y => ?_)); refine AOps.nil ?_; (repeat refine WN ?_)
          cases xh
          · (repeat refine WF ?_); refine AWP.region ?_; (repeat (first | (refine AOps.gQ ?_; first | refine AOps.goNU ?_ | refine AOps.goNV ?_) | refine WO ?_ | refine All.i fun X => ?_ | refine AllY.i fun Y => ?_)); refine AOps.nil ?_; (repeat refine WN ?_)
            refine AWP.cond_f rfl (by first | rfl | assumption) ?_
            (repeat (first | refine WK ?_ | refine All.i fun X => ?_ | refine AllY.i fun Y => ?_))
            refine lp_next (i + 1) hi2
          · obtain ⟨n1, n2, n3⟩ := hy rfl
            have hr1 := hcr xr.kind
            have hr2 := hcw xr.kind
            cases hrr : s.reads.contains xr.kind
            · rw [hrr] at hr1
              rw [show s.writes.contains xr.kind = true from by rcases n3 with e | e; rw [e] at hrr; cases hrr; exact e] at hr2
              (repeat refine WF ?_); refine AWP.region ?_; (repeat (first | (refine AOps.gN ?_; first | (refine AOps.g_callf ?_; first | refine AOps.c2 (h := (hr1 ..)) (k := ?_) | refine AOps.c2 (h := (hr2 ..)) (k := ?_))) | (refine AOps.gQ ?_; first | refine AOps.goNU ?_ | refine AOps.goNV ?_) | refine WO ?_ | refine All.i fun X => ?_ | refine AllY.i fun Y => ?_)); refine AOps.nil ?_; (repeat refine WN ?_)
              refine AWP.cond_f rfl (by first | rfl | assumption) ?_
              (repeat (first | refine WK ?_ | refine All.i fun X => ?_ | refine AllY.i fun Y => ?_))
              refine lp_next (i + 1) hi2
            · rw [hrr] at hr1
              (repeat refine WF ?_); refine AWP.region ?_; (repeat (first | (refine AOps.gN ?_; first | (refine AOps.g_callf ?_; first | refine AOps.c2 (h := (hr1 ..)) (k := ?_))) | (refine AOps.gQ ?_; first | refine AOps.goNU ?_ | refine AOps.goNV ?_) | refine WO ?_ | refine All.i fun X => ?_ | refine AllY.i fun Y => ?_)); refine AOps.nil ?_; (repeat refine WN ?_)
              refine AWP.cond_f rfl (by first | rfl | assumption) ?_
              (repeat (first | refine WK ?_ | refine All.i fun X => ?_ | refine AllY.i fun Y => ?_))
              refine lp_next (i + 1) hi2
        · (repeat (first | refine WK ?_ | refine All.i fun X => ?_ | refine AllY.i fun Y => ?_))
          (refine AWP.ret ?_; (repeat (first | refine inB_r ?_ | refine andThen_r ?_)); refine retQ_r ?_); refine Ends.ps ?_
          rfl
end Go.Proofs.YtkoehhpfjpdkcaaGreat

namespace Go.Proofs.YtkoehhpfjpdkcaaGreat
set_option linter.unusedVariables false
set_option maxRecDepth 4000 in
set_option maxHeartbeats 4000000 in
theorem op5_ps (ks : List Kind) (s : Sys) (o : Op) (h : OpG ks s.reads s.writes o) (hkk : o.act ≤ 7 ∧ twoOp o.act = true) (hr : s.reads.length ≤ 1099511627776) (hw : s.writes.length ≤ 1099511627776) : PS Tryz.prog 51 [kindsA false false ks, sysA false s, opA o] (iA 0) := by
  obtain ⟨h1, h2, h3, h4, h5, h6, h7, h8⟩ := h
  obtain ⟨act, ⟨tk, tf⟩, a, b⟩ := o
  dsimp only at h1 h2 h3 h4 h5 h6 h7 h8 hkk
  have g1 : decide (act < 0) = false := decide_eq_false (by omega)
  have g2 : decide (act > 12) = false := decide_eq_false (by omega)
  have hax : ∀ i, i < 2 → ∃ x, ([argA a, argA b])[i]? = some (argA x) ∧ ArgG ks s.reads s.writes x := fun i hi => by
    rcases Nat.lt_or_ge i 1 with e | e
    · obtain rfl : i = 0 := by omega
      exact ⟨a, rfl, h3⟩
    · obtain rfl : i = 1 := by omega
      exact ⟨b, rfl, h4⟩
  have hkm : (ks.map (kindA false)).length = ks.length := List.length_map _
  refine Spec.of (nt := 201) (res := [.tmp 6]) Tryz.func51 rfl (by kernel_rfl) rfl rfl rfl fun Sf => ?_
  (repeat refine WF ?_); refine AWP.region ?_; (repeat (first | (refine AOps.gN ?_; first | (refine AOps.g_box ?_; refine AOps.goB ?_)) | refine WO ?_ | refine All.i fun X => ?_ | refine AllY.i fun Y => ?_)); refine AOps.nil ?_; (repeat refine WN ?_)
  (repeat refine WF ?_); refine AWP.region ?_; (repeat (first | refine WO ?_ | refine All.i fun X => ?_ | refine AllY.i fun Y => ?_)); refine AOps.nil ?_; (repeat refine WN ?_)
  refine AWP.cond_f rfl g2 ?_
  (repeat (first | (refine AOps.gN ?_; first | (refine AOps.g_lit ?_; refine AOps.goL2 (argA a) (argA b) ?_)) | refine WK ?_ | refine All.i fun X => ?_ | refine AllY.i fun Y => ?_))
  refine AWP.lp (fun i : Nat => ⟨[(0, kindsA false false ks), (4, .fp (sysA false s).cells), (5, .fp (opA ⟨act, ⟨tk, tf⟩, a, b⟩).cells), (27, .lst false 80 4 [argA a, argA b]), (28, iA 2), (29, iA i)], Sf⟩) (fun i => i ≤ 2) (fun i => 2 - i) 0 (by omega) ?_
  rintro i hi
  (repeat (first | refine WK ?_ | refine All.i fun X => ?_ | refine AllY.i fun Y => ?_))
  refine AWP.cond rfl (fun hc => ?_) (fun hc => ?_)
  · have hi2 : i < 2 := by rw [decide_eq_true_eq] at hc; omega
    obtain ⟨⟨xh, xn, ⟨xk, xf⟩⟩, hat, hx⟩ := hax i hi2
    obtain ⟨hy, hn⟩ := hx
    dsimp only at hy hn
    have hal : i < [argA a, argA b].length := hi2
    (repeat refine WF ?_); refine AWP.region ?_; (repeat (first | refine WO ?_ | refine All.i fun V => ?_ | refine AllY.i fun Y => ?_)); refine AOps.nil ?_; (repeat refine WN ?_)
    cases xh
    · obtain ⟨n1, n2, n3⟩ := hn rfl
      have k1 : decide (xn < -1099511627776) = false := decide_eq_false (by omega)
      have k2 : decide (xn > 1099511627776) = false := decide_eq_false (by omega)
      (repeat refine WF ?_); refine AWP.region ?_; (repeat (first | (refine AOps.gQ ?_; first | refine AOps.goNU ?_ | refine AOps.goNV ?_) | refine WO ?_ | refine All.i fun X => ?_ | refine AllY.i fun Y => ?_)); refine AOps.nil ?_; (repeat refine WN ?_)
      refine AWP.cond_f rfl (by first | rfl | assumption) ?_
      (repeat (first | refine WK ?_ | refine All.i fun X => ?_ | refine AllY.i fun Y => ?_))
      refine lp_next (i + 1) hi2
    · obtain ⟨n1, n2, n3⟩ := hy rfl
      have hf := isField_ps ks ⟨xk, xf⟩ n2
      (repeat refine WF ?_); refine AWP.region ?_; (repeat (first | (refine AOps.gN ?_; first | (refine AOps.g_callf ?_; first | refine AOps.c2 (h := (hf ..)) (k := ?_))) | (refine AOps.gQ ?_; first | refine AOps.goNU ?_ | refine AOps.goNV ?_) | refine WO ?_ | refine All.i fun X => ?_ | refine AllY.i fun Y => ?_)); refine AOps.nil ?_; (repeat refine WN ?_)
      refine AWP.cond_f rfl (by first | rfl | assumption) ?_
      (repeat (first | refine WK ?_ | refine All.i fun X => ?_ | refine AllY.i fun Y => ?_))
      refine lp_next (i + 1) hi2
  · clear hc
    (repeat first | refine AOps.nil ?_ | refine WF ?_)
    (repeat refine WF ?_); refine AWP.region ?_; (repeat (first | refine WO ?_ | refine All.i fun N => ?_ | refine AllY.i fun Y => ?_)); refine AOps.nil ?_; (repeat refine WN ?_)
    (repeat (first | (refine AOps.gN ?_; first | (refine AOps.g_lit ?_; refine AOps.goL2 (argA a) (argA b) ?_)) | refine WK ?_ | refine All.i fun X => ?_ | refine AllY.i fun Y => ?_))
    refine AWP.lp (fun i : Nat => ⟨[(0, kindsA false false ks), (4, .fp (sysA false s).cells), (5, .fp (opA ⟨act, ⟨tk, tf⟩, a, b⟩).cells), (9, .ptr N 0 0), (63, .lst false 80 4 [argA a, argA b]), (64, iA 2), (65, iA i)], (N, .row 78 2 [refA ⟨0, 0⟩]) :: Sf⟩) (fun i => i ≤ 2) (fun i => 2 - i) 0 (by omega) ?_
    rintro i hi
    (repeat (first | refine WK ?_ | refine All.i fun X => ?_ | refine AllY.i fun Y => ?_))
    refine AWP.cond rfl (fun hc => ?_) (fun hc => ?_)
    · have hi2 : i < 2 := by rw [decide_eq_true_eq] at hc; omega
      obtain ⟨⟨xh, xn, xr⟩, hat, hx⟩ := hax i hi2
      obtain ⟨hy, hn⟩ := hx
      dsimp only at hy hn
      have hal : i < [argA a, argA b].length := hi2
      (repeat refine WF ?_); refine AWP.region ?_; (repeat (first | refine WO ?_ | refine All.i fun V => ?_ | refine AllY.i fun Y => ?_)); refine AOps.nil ?_; (repeat refine WN ?_)
      cases xh
      · obtain ⟨n1, n2, n3⟩ := hn rfl
        subst n3
        (repeat refine WF ?_); refine AWP.region ?_; (repeat (first | (refine AOps.gN ?_; first | refine AOps.go (h := W.neP _ _ (by kernel_rfl) refNe rfl rfl) (k := ?_)) | (refine AOps.gQ ?_; first | refine AOps.goNU ?_ | refine AOps.goNV ?_) | refine WO ?_ | refine All.i fun X => ?_ | refine AllY.i fun Y => ?_)); refine AOps.nil ?_; (repeat refine WN ?_)
        refine AWP.cond_f rfl (by first | rfl | assumption) ?_
        (repeat (first | refine WK ?_ | refine All.i fun X => ?_ | refine AllY.i fun Y => ?_))
        refine lp_next (i + 1) hi2
      · obtain ⟨n1, n2, n3⟩ := hy rfl
        subst n1
        (repeat refine WF ?_); refine AWP.region ?_; (repeat (first | (refine AOps.gQ ?_; first | refine AOps.goNU ?_ | refine AOps.goNV ?_) | refine WO ?_ | refine All.i fun X => ?_ | refine AllY.i fun Y => ?_)); refine AOps.nil ?_; (repeat refine WN ?_)
        refine AWP.cond_f rfl (by first | rfl | assumption) ?_
        (repeat (first | refine WK ?_ | refine All.i fun X => ?_ | refine AllY.i fun Y => ?_))
        refine lp_next (i + 1) hi2
    · clear hc
      (repeat first | refine AOps.nil ?_ | refine WF ?_)
      have hst := sets_ps act
      have htw := two_ps act
      obtain ⟨sB, hsB⟩ : ∃ b, setsB act = b := ⟨_, rfl⟩
      obtain ⟨tB, htB⟩ : ∃ b, twoOp act = b := ⟨_, rfl⟩
      obtain ⟨c8, hc8⟩ : ∃ b, decide (act = 8) = b := ⟨_, rfl⟩
      obtain ⟨c9, hc9⟩ : ∃ b, decide (act = 9) = b := ⟨_, rfl⟩
      rw [hsB] at hst h6
      rw [htB] at htw h5
      have hk1 : ∀ x : Int, x ∈ s.writes → s.writes.contains x = true := fun x hx => by simpa using hx
      have hcw := fun x => containsI_ps s.writes x (by omega)
      have hcr := fun x => containsI_ps s.reads x (by omega)
      have hsB' := hsB
      have htB' := htB
      have htB0 := htB
      unfold setsB at hsB'
      unfold twoOp at htB'
      cases sB <;> cases tB <;> cases c8 <;> cases c9
      all_goals first
        | (exfalso; (try rw [htB0] at hkk); simp only [Bool.and_eq_true, Bool.or_eq_true, Bool.and_eq_false_iff, Bool.or_eq_false_iff, decide_eq_true_eq, decide_eq_false_iff_not] at hsB' htB' hc8 hc9; first | omega | (revert hkk; simp; done))
        | skip
      · obtain ⟨hR, hW⟩ := h6 rfl
        have hf := isField_ps ks ⟨tk, tf⟩ hR
        have hcw1 := hcw tk
        rw [hW] at hcw1
        (repeat refine WF ?_); refine AWP.region ?_; (repeat (first | refine WO ?_ | refine All.i fun X => ?_ | refine AllY.i fun Y => ?_)); refine AOps.nil ?_; (repeat refine WN ?_)
        (repeat refine WF ?_); refine AWP.region ?_; (repeat (first | (refine AOps.gN ?_; first | (refine AOps.g_callf ?_; first | refine AOps.c1 (h := (hst ..)) (k := ?_) | refine AOps.c1 (h := (htw ..)) (k := ?_)) | refine AOps.go (h := W.neP _ _ (by kernel_rfl) argNe rfl rfl) (k := ?_) | refine AOps.go (h := W.neP _ _ (by kernel_rfl) refNe rfl rfl) (k := ?_)) | (refine AOps.gQ ?_; first | refine AOps.goNU ?_ | refine AOps.goNV ?_) | refine WO ?_ | refine All.i fun X => ?_ | refine AllY.i fun Y => ?_)); refine AOps.nil ?_; (repeat refine WN ?_)
        refine AWP.cond_f rfl (by first | rfl | assumption) ?_
        (repeat refine WF ?_); refine AWP.region ?_; (repeat (first | (refine AOps.gN ?_; first | (refine AOps.g_callf ?_; first | refine AOps.c1 (h := (hst ..)) (k := ?_) | refine AOps.c2 (h := (hf ..)) (k := ?_))) | (refine AOps.gQ ?_; first | refine AOps.goNU ?_ | refine AOps.goNV ?_) | refine WO ?_ | refine All.i fun X => ?_ | refine AllY.i fun Y => ?_)); refine AOps.nil ?_; (repeat refine WN ?_)
        refine AWP.cond_f rfl (by first | rfl | assumption) ?_
        (repeat refine WF ?_); refine AWP.region ?_; (repeat (first | (refine AOps.gN ?_; first | (refine AOps.g_callf ?_; first | refine AOps.c1 (h := (hst ..)) (k := ?_) | refine AOps.c2 (h := (hcw1 ..)) (k := ?_))) | (refine AOps.gQ ?_; first | refine AOps.goNU ?_ | refine AOps.goNV ?_) | refine WO ?_ | refine All.i fun X => ?_ | refine AllY.i fun Y => ?_)); refine AOps.nil ?_; (repeat refine WN ?_)
        refine AWP.cond_f rfl (by first | rfl | assumption) ?_
        (repeat (first | (refine AOps.gN ?_; first | (refine AOps.g_lit ?_; refine AOps.goL2 (argA a) (argA b) ?_)) | refine WK ?_ | refine All.i fun X => ?_ | refine AllY.i fun Y => ?_))
        refine AWP.lp (fun i : Nat => ⟨[(0, kindsA false false ks), (4, .fp (sysA false s).cells), (174, .lst false 80 4 [argA a, argA b]), (175, iA 2), (176, iA i)], Sf⟩) (fun i => i ≤ 2) (fun i => 2 - i) 0 (by omega) ?_
        rintro i hi
        (repeat (first | refine WK ?_ | refine All.i fun X => ?_ | refine AllY.i fun Y => ?_))
        refine AWP.cond rfl (fun hc => ?_) (fun hc => ?_)
        · have hi2 : i < 2 := by rw [decide_eq_true_eq] at hc; omega
          obtain ⟨⟨xh, xn, xr⟩, hat, hx⟩ := hax i hi2
          obtain ⟨hy, hn⟩ := hx
          dsimp only at hy hn
          have hal : i < [argA a, argA b].length := hi2
          (repeat refine WF ?_); refine AWP.region ?_; (repeat (first | refine WO ?_ | refine All.i fun V => ?_ | refine AllY.i fun Y => ?_)); refine AOps.nil ?_; (repeat refine WN ?_)
          cases xh
          · (repeat refine WF ?_); refine AWP.region ?_; (repeat (first | (refine AOps.gQ ?_; first | refine AOps.goNU ?_ | refine AOps.goNV ?_) | refine WO ?_ | refine All.i fun X => ?_ | refine AllY.i fun Y => ?_)); refine AOps.nil ?_; (repeat refine WN ?_)
            refine AWP.cond_f rfl (by first | rfl | assumption) ?_
            (repeat (first | refine WK ?_ | refine All.i fun X => ?_ | refine AllY.i fun Y => ?_))
            refine lp_next (i + 1) hi2
          · obtain ⟨n1, n2, n3⟩ := hy rfl
            have hr1 := hcr xr.kind
            have hr2 := hcw xr.kind
            cases hrr : s.reads.contains xr.kind
            · rw [hrr] at hr1
              rw [show s.writes.contains xr.kind = true from by rcases n3 with e | e; rw [e] at hrr; cases hrr; exact e] at hr2
              (repeat refine WF ?_); refine AWP.region ?_; (repeat (first | (refine AOps.gN ?_; first | (refine AOps.g_callf ?_; first | refine AOps.c2 (h := (hr1 ..)) (k := ?_) | refine AOps.c2 (h := (hr2 ..)) (k := ?_))) | (refine AOps.gQ ?_; first | refine AOps.goNU ?_ | refine AOps.goNV ?_) | refine WO ?_ | refine All.i fun X => ?_ | refine AllY.i fun Y => ?_)); refine AOps.nil ?_; (repeat refine WN ?_)
              refine AWP.cond_f rfl (by first | rfl | assumption) ?_
              (repeat (first | refine WK ?_ | refine All.i fun X => ?_ | refine AllY.i fun Y => ?_))
              refine lp_next (i + 1) hi2
            · rw [hrr] at hr1
              (repeat refine WF ?_); refine AWP.region ?_; (repeat (first | (refine AOps.gN ?_; first | (refine AOps.g_callf ?_; first | refine AOps.c2 (h := (hr1 ..)) (k := ?_))) | (refine AOps.gQ ?_; first | refine AOps.goNU ?_ | refine AOps.goNV ?_) | refine WO ?_ | refine All.i fun X => ?_ | refine AllY.i fun Y => ?_)); refine AOps.nil ?_; (repeat refine WN ?_)
              refine AWP.cond_f rfl (by first | rfl | assumption) ?_
              (repeat (first | refine WK ?_ | refine All.i fun X => ?_ | refine AllY.i fun Y => ?_))
              refine lp_next (i + 1) hi2
        · (repeat (first | refine WK ?_ | refine All.i fun X => ?_ | refine AllY.i fun Y => ?_))
          (refine AWP.ret ?_; (repeat (first | refine inB_r ?_ | refine andThen_r ?_)); refine retQ_r ?_); refine Ends.ps ?_
          rfl
end Go.Proofs.YtkoehhpfjpdkcaaGreat

namespace Go.Proofs.YtkoehhpfjpdkcaaGreat
set_option linter.unusedVariables false
theorem op_ps (ks : List Kind) (s : Sys) (o : Op) (h : OpG ks s.reads s.writes o) (hr : s.reads.length ≤ 1099511627776) (hw : s.writes.length ≤ 1099511627776) : PS Tryz.prog 51 [kindsA false false ks, sysA false s, opA o] (iA 0) := by
  have h1 := h.lo
  have h2 := h.hi
  by_cases c : o.act ≤ 7
  · cases ht : twoOp o.act
    · exact op4_ps ks s o h ⟨c, ht⟩ hr hw
    · exact op5_ps ks s o h ⟨c, ht⟩ hr hw
  · by_cases c8 : o.act = 8
    · exact op2_ps ks s o h c8 hr hw
    · by_cases c9 : o.act = 9
      · exact op1_ps ks s o h c9 hr hw
      · by_cases c12 : o.act = 12
        · exact op3_ps ks s o h c12 hr hw
        · exact op0_ps ks s o h (by omega) hr hw
end Go.Proofs.YtkoehhpfjpdkcaaGreat

namespace Go.Proofs.YtkoehhpfjpdkcaaGreat
set_option linter.unusedVariables false
theorem growNilI_ps (n : Nat) (hn : n * 8 ≤ 140737488355328) : PS Tryz.prog 77 [.prim (.slice none 0 0), iA n] (.lst true 3 1 []) := by
  refine Spec.of (nt := 27) (res := [.tmp 4]) Tryz.func77 rfl (by kernel_rfl) rfl rfl rfl fun Sf => ?_
  (repeat (first | refine WK ?_ | refine All.i fun X => ?_ | refine AllY.i fun Y => ?_))
  refine AWP.cond_f rfl (decide_eq_false (by omega)) ?_
  (repeat (first | (refine AOps.gN ?_; first | refine AOps.p (W.capN rfl) rfl ?_) | refine WK ?_ | refine All.i fun X => ?_ | refine AllY.i fun Y => ?_))
  refine AWP.cond rfl (fun hc => ?_) (fun hc => ?_)
  · have hc : 0 < n := by rw [decide_eq_true_eq] at hc; omega
    (repeat (first | (refine AOps.gN ?_; first | refine AOps.p (W.capN rfl) rfl ?_ | refine AOps.p (W.sliceN rfl rfl) rfl ?_ | (refine AOps.g_app2 ?_; refine AOps.appzN (n := n) (fun Y => ?_) hc hn (hq := by omega)) | refine AOps.p (W.hi (a := 0) rfl rfl (by exact At.f) rfl (by omega)) rfl ?_) | refine WK ?_ | refine All.i fun X => ?_ | refine AllY.i fun Y => ?_))
    refine AWP.shrink (X := Y) 0 ?_
    (refine AWP.ret ?_; (repeat (first | refine inB_r ?_ | refine andThen_r ?_)); refine retQ_r ?_)
    exact ⟨[.sl Y 0 0], [.lst true 3 1 []], _, [], .cons (.tmp rfl) rfl .nil, .cons (.cell (.sl (p := 0) .here rfl)) .nil, by exact Sub.f, rfl, rfl⟩
  · (repeat (first | refine WK ?_ | refine All.i fun X => ?_ | refine AllY.i fun Y => ?_))
    (refine AWP.ret ?_; (repeat (first | refine inB_r ?_ | refine andThen_r ?_)); refine retQ_r ?_)
    exact ⟨[.prim (.slice none 0 0)], [.lst true 3 1 []], _, [], .cons (.tmp rfl) rfl .nil, .cons (.cell .nil) .nil, by exact Sub.f, rfl, rfl⟩
def lenToI (ls : List (List Int)) (i : Nat) : Nat := ((ls.take i).flatten).length
theorem lenToI_succ {ls : List (List Int)} {i : Nat} (h : i < ls.length) : lenToI ls (i + 1) = lenToI ls i + ls[i].length := by
  unfold lenToI
  rw [List.take_succ_eq_append_getElem h, List.flatten_append, List.length_append]
  simp
theorem lenToI_le (ls : List (List Int)) (i : Nat) : lenToI ls i ≤ ls.flatten.length := by
  unfold lenToI
  have h : ((ls.take i).flatten ++ (ls.drop i).flatten) = ls.flatten := by rw [← List.flatten_append, List.take_append_drop]
  rw [← h, List.length_append]
  omega
theorem concatI_ps (ls : List (List Int)) (hl : ls.length ≤ 4611686018427387903) (hb : ls.flatten.length * 8 ≤ 140737488355328) : PS Tryz.prog 48 [.lst false 22 1 (ls.map fun l => .lst false 3 1 (l.map iA))] (.lst true 3 1 (ls.flatten.map iA)) := by
  refine Spec.of (nt := 36) (res := [.tmp 2]) Tryz.func48 rfl (by kernel_rfl) rfl rfl rfl fun Sf => ?_
  have hle := lenToI_le ls
  (repeat (first | refine WK ?_ | refine All.i fun X => ?_ | refine AllY.i fun Y => ?_))
  refine AWP.lp2 (fun (i : Nat) (s : Int) => ⟨[(0, .lst false 22 1 (ls.map fun l => .lst false 3 1 (l.map iA))), (3, iA s), (9, .lst false 22 1 (ls.map fun l => .lst false 3 1 (l.map iA))), (10, iA (ls.map fun l => AV.lst false 3 1 (l.map iA)).length), (11, iA i)], Sf⟩) (fun i s => i ≤ ls.length ∧ s = lenToI ls i) (fun i _ => ls.length - i) 0 0 ⟨Nat.zero_le _, rfl⟩ ?_
  rintro i s ⟨hi, hs⟩
  have h0 := hle i
  (repeat (first | refine WK ?_ | refine All.i fun X => ?_ | refine AllY.i fun Y => ?_))
  refine AWP.cond rfl (fun hc => ?_) (fun hc => ?_)
  · have h : i < ls.length := by rw [decide_eq_true_eq, List.length_map] at hc; omega
    have hs1 := lenToI_succ h
    have h1 := hle (i + 1)
    have hml : (ls[i].map iA).length = ls[i].length := List.length_map _
    (repeat (first | refine WK ?_ | refine All.i fun X => ?_ | refine AllY.i fun Y => ?_))
    refine AWP.cond_f rfl (decide_eq_false (by omega)) ?_
    (repeat (first | refine WK ?_ | refine All.i fun X => ?_ | refine AllY.i fun Y => ?_))
    exact lp_next2 (i + 1) (s + (ls[i].map iA).length) ⟨h, by omega⟩
  · have h : i = ls.length := by rw [decide_eq_false_iff_not, List.length_map] at hc; omega
    subst h
    have hfull : lenToI ls ls.length = ls.flatten.length := by unfold lenToI; rw [List.take_length]
    subst hs
    have hg := growNilI_ps (lenToI ls ls.length) (by rw [hfull]; exact hb)
    (repeat (first | (refine AOps.gN ?_; first | (refine AOps.g_callf ?_; first | refine AOps.t2 (h := hg) fun Y => ?_)) | refine WK ?_ | refine All.i fun X => ?_ | refine AllY.i fun Y => ?_))
    refine AWP.lp4 (fun (i Y m : Nat) (L : List AV) => ⟨[(6, .sl Y 0 m), (25, .lst false 22 1 (ls.map fun l => .lst false 3 1 (l.map iA))), (26, iA (ls.map fun l => AV.lst false 3 1 (l.map iA)).length), (27, iA i)], (Y, .row 3 1 L) :: Sf⟩) (fun i _ m L => i ≤ ls.length ∧ m = L.length ∧ L = ((ls.take i).flatten).map iA) (fun i _ _ _ => ls.length - i) 0 Y 0 [] ⟨Nat.zero_le _, rfl, rfl⟩ ?_
    rintro i Y m L ⟨hi, hm, hL⟩
    have hLl : L.length = lenToI ls i := by rw [hL, List.length_map]; rfl
    (repeat (first | refine WK ?_ | refine All.i fun X => ?_ | refine AllY.i fun Y => ?_))
    refine AWP.cond rfl (fun hd => ?_) (fun hd => ?_)
    · have h : i < ls.length := by rw [decide_eq_true_eq, List.length_map] at hd; omega
      have hs1 := lenToI_succ h
      have h1 := hle (i + 1)
      have hml : (ls[i].map iA).length = ls[i].length := List.length_map _
      have hbd : (m + (ls[i].map iA).length) * 8 ≤ 140737488355328 := by omega
      (repeat (first | refine WK ?_ | refine All.i fun X => ?_ | refine AllY.i fun Y => ?_))
      refine lp_next4 (i + 1) Y _ _ ⟨h, ?_, ?_⟩
      · rw [List.length_append, hm]
      · rw [List.take_succ_eq_append_getElem h, List.flatten_append, List.map_append, ← hL]; simp
    · have h : i = ls.length := by rw [decide_eq_false_iff_not, List.length_map] at hd; omega
      subst h
      rw [List.take_length] at hL
      subst hL
      (repeat (first | refine WK ?_ | refine All.i fun X => ?_ | refine AllY.i fun Y => ?_))
      (refine AWP.ret ?_; (repeat (first | refine inB_r ?_ | refine andThen_r ?_)); refine retQ_r ?_)
      exact ⟨[.sl Y 0 m], [.lst true 3 1 (ls.flatten.map iA)], _, [], .cons (.tmp rfl) rfl .nil, .cons (.cell (.sl (p := 0) .here hm)) .nil, by exact Sub.f, rfl, rfl⟩
end Go.Proofs.YtkoehhpfjpdkcaaGreat

namespace Go.Proofs.YtkoehhpfjpdkcaaGreat
set_option linter.unusedVariables false
/-- A system that is valid for some kinds. -/
structure SysG (ks : List Kind) (s : Sys) : Prop where
  name : nameOk s.name = true
  len : s.ops.length ≤ 20
  o : ∀ l ∈ [s.wth, s.wout, s.reads, s.writes], l.Pairwise (· < ·) ∧ (∀ x ∈ l, 0 ≤ x ∧ x < ks.length) ∧ l.length ≤ 16
  clash : (s.wth.any fun x => s.wout.contains x) = false
  typ : ((s.reads ++ s.writes).any fun x => !s.wth.contains x) = false
  spawn : (wFit ks s.spawn).2 = 0
  sp : s.spawn.length ≤ 1099511627776
  ops : ∀ o ∈ s.ops, OpG ks s.reads s.writes o
set_option maxRecDepth 8000 in
set_option maxHeartbeats 1000000 in
theorem sysCheck_ps (ks : List Kind) (s : Sys) (hk : checkErr ks = 0) (h12 : ks.length ≤ 12) (h : SysG ks s) : PS Tryz.prog 23 [kindsA false false ks, sysA false s] (iA 0) := by
  have hck := check_ps ks
  rw [hk] at hck
  have hnm := name_ps s.name
  rw [h.name] at hnm
  have hl1 := h.o s.wth (by simp)
  have hl2 := h.o s.wout (by simp)
  have hl3 := h.o s.reads (by simp)
  have hl4 := h.o s.writes (by simp)
  have hft := wfit_ps ks s.spawn h12 h.sp
  rw [h.spawn] at hft
  have hcl := containsFuncI_ps s.wth 46 [.fp (sysA false s).cells] (fun x => s.wout.contains x) rfl (by omega) (fun x _ => sysCheck1_ps s x (by omega))
  rw [h.clash] at hcl
  have hty := containsFuncI_ps (s.reads ++ s.writes) 49 [.fp (sysA false s).cells] (fun x => !s.wth.contains x) rfl (by rw [List.length_append]; omega) (fun x _ => sysCheck2_ps s x (by omega))
  rw [h.typ] at hty
  have hom : (s.ops.map opA).length = s.ops.length := List.length_map _
  have hol := h.len
  have hle : decide (((s.ops.map opA).length : Int) > 20) = false := decide_eq_false (by omega)
  refine Spec.of (nt := 85) (res := [.tmp 4]) Tryz.func23 rfl (by kernel_rfl) rfl rfl rfl fun Sf => ?_
  (repeat refine WF ?_); refine AWP.region ?_; (repeat (first | (refine AOps.gN ?_; first | (refine AOps.g_box ?_; refine AOps.goB ?_)) | refine WO ?_ | refine All.i fun X => ?_ | refine AllY.i fun Y => ?_)); refine AOps.nil ?_; (repeat refine WN ?_)
  (repeat (first | (refine AOps.gN ?_; first | (refine AOps.g_callf ?_; first | refine AOps.c1 (h := (hck ..)) (k := ?_))) | refine WK ?_ | refine All.i fun X => ?_ | refine AllY.i fun Y => ?_))
  refine AWP.cond_f rfl rfl ?_
  (repeat (first | (refine AOps.gN ?_; first | (refine AOps.g_callf ?_; first | refine AOps.c1 (h := (hnm ..)) (k := ?_))) | refine WK ?_ | refine All.i fun X => ?_ | refine AllY.i fun Y => ?_))
  refine AWP.cond_f rfl rfl ?_
  (repeat (first | refine WK ?_ | refine All.i fun X => ?_ | refine AllY.i fun Y => ?_))
  refine AWP.cond_f rfl hle ?_
  have hax : ∀ i, i < 4 → ∃ l, ([intsA false s.wth, intsA false s.wout, intsA false s.reads, intsA false s.writes])[i]? = some (intsA false l) ∧ l.Pairwise (· < ·) ∧ (∀ x ∈ l, 0 ≤ x ∧ x < ks.length) ∧ l.length ≤ 16 := fun i hi => by
    rcases (show i = 0 ∨ i = 1 ∨ i = 2 ∨ i = 3 by omega) with rfl | rfl | rfl | rfl
    · exact ⟨_, rfl, hl1⟩
    · exact ⟨_, rfl, hl2⟩
    · exact ⟨_, rfl, hl3⟩
    · exact ⟨_, rfl, hl4⟩
  (repeat (first | refine WK ?_ | refine All.i fun X => ?_ | refine AllY.i fun Y => ?_))
  refine AWP.lp (fun i : Nat => ⟨[(0, kindsA false false ks), (3, .fp (sysA false s).cells), (35, .lst false 22 1 [intsA false s.wth, intsA false s.wout, intsA false s.reads, intsA false s.writes]), (36, iA 4), (37, iA i)], Sf⟩) (fun i => i ≤ 4) (fun i => 4 - i) 0 (by omega) ?_
  rintro i hi
  (repeat (first | refine WK ?_ | refine All.i fun X => ?_ | refine AllY.i fun Y => ?_))
  refine AWP.cond rfl (fun hc => ?_) (fun hc => ?_)
  · have hi2 : i < 4 := by rw [decide_eq_true_eq] at hc; omega
    obtain ⟨l, hat, p1, p2, p3⟩ := hax i hi2
    have hst := set_ps ks l p1 p2 (by omega)
    have hal : i < [intsA false s.wth, intsA false s.wout, intsA false s.reads, intsA false s.writes].length := hi2
    (repeat (first | (refine AOps.gN ?_; first | (refine AOps.g_callf ?_; first | refine AOps.c2 (h := (hst ..)) (k := ?_))) | refine WK ?_ | refine All.i fun X => ?_ | refine AllY.i fun Y => ?_))
    refine AWP.cond_f rfl rfl ?_
    (repeat (first | refine WK ?_ | refine All.i fun X => ?_ | refine AllY.i fun Y => ?_))
    refine lp_next (i + 1) hi2
  · clear hc
    (repeat (first | (refine AOps.gN ?_; first | (refine AOps.g_callf ?_; first | refine AOps.c2 (h := (hcl ..)) (k := ?_))) | refine WK ?_ | refine All.i fun X => ?_ | refine AllY.i fun Y => ?_))
    refine AWP.cond_f rfl rfl ?_
    have hcc := concatI_ps [s.reads, s.writes] (by simp) (by simp; omega)
    rw [show [s.reads, s.writes].flatten = s.reads ++ s.writes from by simp] at hcc
    (repeat (first | (refine AOps.gN ?_; first | (refine AOps.g_callf ?_; first | refine AOps.c1 (h := (hcc ..)) (k := ?_) | refine AOps.c2 (h := (hty ..)) (k := ?_)) | (refine AOps.g_lit ?_; refine AOps.goL2 (intsA false s.reads) (intsA false s.writes) ?_)) | refine WK ?_ | refine All.i fun X => ?_ | refine AllY.i fun Y => ?_))
    refine AWP.cond_f rfl rfl ?_
    (repeat (first | (refine AOps.gN ?_; first | (refine AOps.g_callf ?_; first | refine AOps.c2 (h := (hft ..)) (k := ?_))) | refine WK ?_ | refine All.i fun X => ?_ | refine AllY.i fun Y => ?_))
    refine AWP.cond_f rfl rfl ?_
    (repeat (first | refine WK ?_ | refine All.i fun X => ?_ | refine AllY.i fun Y => ?_))
    refine AWP.lp (fun i : Nat => ⟨[(0, kindsA false false ks), (3, .fp (sysA false s).cells), (71, opsA false s.ops), (72, iA (s.ops.map opA).length), (73, iA i)], Sf⟩) (fun i => i ≤ s.ops.length) (fun i => s.ops.length - i) 0 (by omega) ?_
    rintro i hi
    (repeat (first | refine WK ?_ | refine All.i fun X => ?_ | refine AllY.i fun Y => ?_))
    refine AWP.cond rfl (fun hc => ?_) (fun hc => ?_)
    · have hi2 : i < s.ops.length := by rw [decide_eq_true_eq, hom] at hc; omega
      have hop := op_ps ks s s.ops[i] (h.ops _ (List.getElem_mem hi2)) (by omega) (by omega)
      have hat : (s.ops.map opA)[i]? = some (opA s.ops[i]) := by rw [List.getElem?_map, List.getElem?_eq_getElem hi2]; rfl
      (repeat refine WF ?_); refine AWP.region ?_; (repeat (first | refine WO ?_ | refine All.i fun V => ?_ | refine AllY.i fun Y => ?_)); refine AOps.nil ?_; (repeat refine WN ?_)
      (repeat refine WF ?_); refine AWP.region ?_; (repeat (first | (refine AOps.gN ?_; first | (refine AOps.g_callf ?_; first | refine AOps.c3 (h := (hop ..)) (k := ?_))) | refine WO ?_ | refine All.i fun X => ?_ | refine AllY.i fun Y => ?_)); refine AOps.nil ?_; (repeat refine WN ?_)
      (repeat (first | refine WK ?_ | refine All.i fun X => ?_ | refine AllY.i fun Y => ?_))
      refine AWP.cond_f rfl rfl ?_
      (repeat (first | refine WK ?_ | refine All.i fun X => ?_ | refine AllY.i fun Y => ?_))
      refine lp_next (i + 1) hi2
    · (repeat (first | refine WK ?_ | refine All.i fun X => ?_ | refine AllY.i fun Y => ?_))
      (refine AWP.ret ?_; (repeat (first | refine inB_r ?_ | refine andThen_r ?_)); refine retQ_r ?_); refine Ends.ps ?_
      rfl
end Go.Proofs.YtkoehhpfjpdkcaaGreat

namespace Go.Proofs.YtkoehhpfjpdkcaaGreat
set_option linter.unusedVariables false
/-- What a runner keeps, but for lengths. -/
structure RnG (ks : List Kind) (s : Sys) (st : Rn) : Prop where
  held : heldOf ks st.comps = true
  has : HasK s st.comps
  odd : st.r.2.toNat % 2 = 1
theorem valueV_odd (act a b : Int) (r : UInt64 × UInt64) : (valueV act a b r).2.2 = r.2 := by
  have hg : (belowU r a.toNat).2.2 = r.2 := by unfold belowU; exact belowGo_gamma _ _ _
  unfold valueV
  obtain ⟨res, hres⟩ : ∃ res, belowU r a.toNat = res := ⟨_, rfl⟩
  rw [hres] at hg ⊢
  clear hres
  split
  · rfl
  split
  · rfl
  split
  · rfl
  split
  · rfl
  split
  · rfl
  split
  · rfl
  split
  · split
    · rfl
    · exact hg
  · rfl
theorem doM_ok {ks : List Kind} {s : Sys} {index : Int} {e : Ent} {o : Op} {st : Rn} (hk : checkErr ks = 0) (h : RnG ks s st) (ho : OpG ks s.reads s.writes o) : RnG ks s (doM ks s index e o st) ∧ (doM ks s index e o st).cmds.length ≤ st.cmds.length + 1 ∧ (doM ks s index e o st).evs.length ≤ st.evs.length + 1 := by
  obtain ⟨h1, h2, h3⟩ := h
  unfold doM
  by_cases hs : setsB o.act = true
  · rw [if_pos hs]
    obtain ⟨hR, hW⟩ := ho.sets hs
    obtain ⟨c, k, e1, e2, e3, e4, e5, e6, e7⟩ := ref_comp h1 h2 hR (.inr hW)
    refine ⟨⟨setV_held hk h1 e1 e3 e5 e6 _, hasK_kinds h2 (setV_kinds (held_iff.1 h1).1 _ _ _), ?_⟩, Nat.le_succ _, Nat.le_succ _⟩
    dsimp only
    rw [valueV_odd]
    exact h3
  · rw [if_neg hs]
    by_cases hz : argV st.comps o.a = 0
    · rw [if_pos hz]
      exact ⟨⟨h1, h2, h3⟩, Nat.le_succ _, Nat.le_succ _⟩
    · rw [if_neg hz]
      by_cases h12 : o.act = 12
      · rw [if_pos h12]
        exact ⟨⟨h1, h2, h3⟩, Nat.le_succ _, by simp⟩
      · rw [if_neg h12]
        exact ⟨⟨h1, h2, h3⟩, by simp, Nat.le_succ _⟩
/-- Some operations in turn. -/
def opsM (ks : List Kind) (s : Sys) (index : Int) (e : Ent) (os : List Op) (st : Rn) : Rn := os.foldl (fun st o => doM ks s index e o st) st
theorem opsM_ok {ks : List Kind} {s : Sys} {index : Int} {e : Ent} (hk : checkErr ks = 0) : ∀ (os : List Op) {st : Rn} (h : RnG ks s st) (ho : ∀ o ∈ os, OpG ks s.reads s.writes o), RnG ks s (opsM ks s index e os st) ∧ (opsM ks s index e os st).cmds.length ≤ st.cmds.length + os.length ∧ (opsM ks s index e os st).evs.length ≤ st.evs.length + os.length
  | [], st, h, ho => ⟨h, Nat.le_refl _, Nat.le_refl _⟩
  | o :: os, st, h, ho => by
    obtain ⟨g1, g2, g3⟩ := doM_ok (index := index) (e := e) hk h (ho o (by simp))
    obtain ⟨k1, k2, k3⟩ := opsM_ok (index := index) (e := e) hk os g1 (fun o' h' => ho o' (by simp [h']))
    refine ⟨k1, ?_, ?_⟩
    · show (opsM ks s index e os (doM ks s index e o st)).cmds.length ≤ _
      rw [List.length_cons]; omega
    · show (opsM ks s index e os (doM ks s index e o st)).evs.length ≤ _
      rw [List.length_cons]; omega
theorem opsM_take {ks : List Kind} {s : Sys} {index : Int} {e : Ent} {os : List Op} {i : Nat} (h : i < os.length) (st : Rn) : opsM ks s index e (os.take (i + 1)) st = doM ks s index e os[i] (opsM ks s index e (os.take i) st) := by
  unfold opsM
  rw [List.take_succ_eq_append_getElem h, List.foldl_append]
  rfl
/-- One entity. -/
def entM (ks : List Kind) (s : Sys) (index seed tick : Int) (x : Item) (cm : List Cmd) (ev : List Evt) : Rn := opsM ks s index x.ent s.ops ⟨x.comps, rndOf [seed, tick, index, x.ent.n], cm, ev⟩
/-- Some entities in turn. -/
def rowsM (ks : List Kind) (s : Sys) (index seed tick : Int) (qs : List (Nat × Item)) (b : List Item × List Cmd × List Evt) : List Item × List Cmd × List Evt :=
  qs.foldl (fun b q => (b.1.set q.1 ⟨q.2.ent, (entM ks s index seed tick q.2 b.2.1 b.2.2).comps⟩, (entM ks s index seed tick q.2 b.2.1 b.2.2).cmds, (entM ks s index seed tick q.2 b.2.1 b.2.2).evs)) b
theorem rowsM_take {ks : List Kind} {s : Sys} {index seed tick : Int} {qs : List (Nat × Item)} {i : Nat} (h : i < qs.length) (b : List Item × List Cmd × List Evt) : rowsM ks s index seed tick (qs.take (i + 1)) b = rowsM ks s index seed tick [qs[i]] (rowsM ks s index seed tick (qs.take i) b) := by
  unfold rowsM
  rw [List.take_succ_eq_append_getElem h, List.foldl_append]
/-- A run. -/
def runM (w : Wd) (s : Sys) (index seed tick : Int) : List Item × List Cmd × List Evt := rowsM w.kinds s index seed tick (allOf w.items s.wth s.wout) (w.items, [], [])
theorem rndOf_odd (l : List Int) : (rndOf l).2.toNat % 2 = 1 := by
  unfold rndOf
  dsimp only
  rw [UInt64.toNat_or]
  have : (1 : UInt64).toNat = 1 := rfl
  rw [this, ← Nat.and_one_is_mod, Nat.and_or_distrib_right]
  rw [Nat.and_one_is_mod]
  rcases Nat.mod_two_eq_zero_or_one (mixU (mixU (l.foldl stepU (UInt64.ofNat l.length) + gold) + gold)).toNat with h | h <;> rw [h] <;> rfl
theorem entM_ok {ks : List Kind} {s : Sys} {index seed tick : Int} {x : Item} (hk : checkErr ks = 0) (hh : heldOf ks x.comps = true) (ha : HasK s x.comps) (ho : ∀ o ∈ s.ops, OpG ks s.reads s.writes o) (cm : List Cmd) (ev : List Evt) (i : Nat) :
    RnG ks s (opsM ks s index x.ent (s.ops.take i) ⟨x.comps, rndOf [seed, tick, index, x.ent.n], cm, ev⟩) ∧ (opsM ks s index x.ent (s.ops.take i) ⟨x.comps, rndOf [seed, tick, index, x.ent.n], cm, ev⟩).cmds.length ≤ cm.length + s.ops.length ∧ (opsM ks s index x.ent (s.ops.take i) ⟨x.comps, rndOf [seed, tick, index, x.ent.n], cm, ev⟩).evs.length ≤ ev.length + s.ops.length := by
  obtain ⟨h1, h2, h3⟩ := opsM_ok (s := s) (index := index) (e := x.ent) hk (s.ops.take i) (st := ⟨x.comps, rndOf [seed, tick, index, x.ent.n], cm, ev⟩) ⟨hh, ha, rndOf_odd _⟩ (fun o h => ho o (List.mem_of_mem_take h))
  have : (s.ops.take i).length ≤ s.ops.length := by rw [List.length_take]; omega
  dsimp only at h2 h3
  exact ⟨h1, by omega, by omega⟩
theorem rowsM_ok {ks : List Kind} {s : Sys} {index seed tick : Int} (hk : checkErr ks = 0) (ho : ∀ o ∈ s.ops, OpG ks s.reads s.writes o) : ∀ (qs : List (Nat × Item)) (b : List Item × List Cmd × List Evt), (∀ q ∈ qs, heldOf ks q.2.comps = true ∧ HasK s q.2.comps) →
    (rowsM ks s index seed tick qs b).2.1.length ≤ b.2.1.length + qs.length * s.ops.length ∧ (rowsM ks s index seed tick qs b).2.2.length ≤ b.2.2.length + qs.length * s.ops.length ∧ (rowsM ks s index seed tick qs b).1.length = b.1.length
  | [], b, _ => by simp [rowsM]
  | q :: qs, b, h => by
    obtain ⟨hq1, hq2⟩ := h q (by simp)
    have he := entM_ok (index := index) (seed := seed) (tick := tick) hk hq1 hq2 ho b.2.1 b.2.2 s.ops.length
    rw [List.take_length] at he
    obtain ⟨e1, e2, e3⟩ := he
    obtain ⟨r1, r2, r3⟩ := rowsM_ok hk ho qs (b.1.set q.1 ⟨q.2.ent, (entM ks s index seed tick q.2 b.2.1 b.2.2).comps⟩, (entM ks s index seed tick q.2 b.2.1 b.2.2).cmds, (entM ks s index seed tick q.2 b.2.1 b.2.2).evs) (fun q' h' => h q' (by simp [h']))
    have e2' : (entM ks s index seed tick q.2 b.2.1 b.2.2).cmds.length ≤ b.2.1.length + s.ops.length := e2
    have e3' : (entM ks s index seed tick q.2 b.2.1 b.2.2).evs.length ≤ b.2.2.length + s.ops.length := e3
    dsimp only at r1 r2 r3
    rw [List.length_set] at r3
    have hm : (q :: qs).length * s.ops.length = qs.length * s.ops.length + s.ops.length := by rw [List.length_cons, Nat.succ_mul]
    rw [hm]
    exact ⟨Nat.le_trans r1 (by omega), Nat.le_trans r2 (by omega), r3⟩
/-- An item that matches has the kinds that are read or written. -/
theorem match_has {ks : List Kind} {s : Sys} (h : SysG ks s) {x : Item} (hm : matchOf x s.wth s.wout = true) : HasK s x.comps := by
  have ht := h.typ
  intro k hk
  unfold matchOf at hm
  simp only [Bool.and_eq_true, Bool.not_eq_true', List.any_eq_false] at hm ht
  have h1 := ht k (by rw [List.mem_append]; rcases hk with hk | hk <;> simp at hk <;> simp [hk])
  have h2 := hm.1 k (by simpa using h1)
  unfold compOf
  rw [List.find?_isSome]
  unfold hasK at h2
  simpa using h2
end Go.Proofs.YtkoehhpfjpdkcaaGreat

namespace Go.Proofs.YtkoehhpfjpdkcaaGreat
set_option linter.unusedVariables false
/-- The first i copied, the rest empty. -/
def kcpL (ks : List Kind) (i : Nat) : List AV := (ks.take i).map (kindA true) ++ List.replicate (ks.length - i) (.agg [sA [], .prim (.slice none 0 0)])
theorem kcpL_len (ks : List Kind) (i : Nat) (h : i ≤ ks.length) : (kcpL ks i).length = ks.length := by simp [kcpL]; omega
theorem kcpL_at {ks : List Kind} {i : Nat} (h : i < ks.length) : (kcpL ks i)[i]? = some (.agg [sA [], .prim (.slice none 0 0)]) := by
  unfold kcpL
  rw [List.getElem?_append_right (by simp; omega), List.getElem?_replicate, if_pos (by simp; omega)]
theorem kcpL_set {ks : List Kind} {i : Nat} (h : i < ks.length) : (kcpL ks i).set i (kindA true ks[i]) = kcpL ks (i + 1) := by
  unfold kcpL
  rw [List.set_append_right _ _ (by simp; omega), List.length_map, List.length_take, Nat.min_eq_left (by omega), Nat.sub_self]
  rw [show ks.length - i = (ks.length - (i + 1)) + 1 from by omega, List.replicate_succ, List.set_cons_zero]
  rw [List.take_succ_eq_append_getElem h, List.map_append, List.append_assoc]
  rfl
theorem kindCopy_ps (ks : List Kind) (hl : ks.length ≤ 1099511627776) (hf : ∀ k ∈ ks, k.fields.length ≤ 1099511627776) : PS Tryz.prog 52 [kindsA false false ks] (kindsA true true ks) := by
  refine Spec.of (nt := 27) (res := [.tmp 2]) Tryz.func52 rfl (by kernel_rfl) rfl rfl rfl fun Sf => ?_
  have hkm : (ks.map (kindA false)).length = ks.length := List.length_map _
  have hz0 : List.replicate (ks.map (kindA false)).length (.agg [sA [], .prim (.slice none 0 0)]) = kcpL ks 0 := by simp [kcpL]
  (repeat (first | (refine AOps.gN ?_; first | (refine AOps.g_make ?_; refine AOps.goM ((.agg [sA [], .prim (.slice none 0 0)])) fun K => ?_)) | refine WK ?_ | refine All.i fun X => ?_ | refine AllY.i fun Y => ?_))
  rw [hz0]
  refine AWP.lp2 (fun (i : Nat) (M : List AV) => ⟨[(3, .sl K 0 (ks.map (kindA false)).length), (9, kindsA false false ks), (10, iA (ks.map (kindA false)).length), (11, iA i)], (K, .row 102 2 M) :: Sf⟩) (fun i M => i ≤ ks.length ∧ M = kcpL ks i) (fun i _ => ks.length - i) 0 _ ⟨Nat.zero_le _, rfl⟩ ?_
  rintro i M ⟨hi, hM⟩
  (repeat (first | refine WK ?_ | refine All.i fun X => ?_ | refine AllY.i fun Y => ?_))
  refine AWP.cond rfl (fun hc => ?_) (fun hc => ?_)
  · have h : i < ks.length := by rw [decide_eq_true_eq, hkm] at hc; omega
    have hset := kcpL_set h
    have hMat : M[i]? = some (.agg [sA [], .prim (.slice none 0 0)]) := by rw [hM]; exact kcpL_at h
    have hMl : M.length = ks.length := by rw [hM]; exact kcpL_len ks i hi
    have hfl := hf _ (List.getElem_mem h)
    obtain ⟨⟨kn, fs⟩, hk⟩ : ∃ k, ks[i] = k := ⟨_, rfl⟩
    rw [hk] at hset hfl
    dsimp only at hfl
    have hat : (ks.map (kindA false))[i]? = some (kindA false ⟨kn, fs⟩) := by rw [List.getElem?_map, List.getElem?_eq_getElem h, hk]; rfl
    have hil : i < (ks.map (kindA false)).length := by omega
    have hfm : (fs.map fieldA).length = fs.length := List.length_map _
    (repeat (first | refine WK ?_ | refine All.i fun V => ?_ | refine AllY.i fun Y => ?_))
    refine AWP.rs fun Y => ?_
    (repeat refine WF ?_); refine AWP.region_run (by kernel_rfl) (by kernel_rfl) ?_; (repeat (first | (refine RGo.gN ?_; first | refine RGo.s (W.appN (by rw [hfm]; omega) (by rw [hfm]; unfold maxLen; omega) rfl rfl (by exact At.f)) rfl ?_) | (refine RGo.gQ ?_; first | refine RGo.s (W.appN (by rw [hfm]; omega) (by rw [hfm]; unfold maxLen; omega) rfl rfl (by exact At.f)) rfl ?_) | refine RK ?_ | refine RGo.nil (by kernel_rfl) ?_))
    (repeat refine WF ?_)
    have hMs : (M.set i (.agg [sA kn, .sl Y 0 (fs.map fieldA).length]))[i]? = some (.agg [sA kn, .sl Y 0 (fs.map fieldA).length]) := by rw [List.getElem?_set_self (by omega)]
    refine AWP.closeIn (X := Y) (Y := K) .here (.next (.next .here)) rfl rfl (Hos.at hMs (.agg (.tail (.head .here)))) ?_
    rw [List.set_set]
    (repeat (first | refine WK ?_ | refine All.i fun X => ?_ | refine AllY.i fun Y => ?_))
    refine lp_next2 (i + 1) _ ⟨h, ?_⟩
    rw [hM]; exact hset
  · have h : i = ks.length := by rw [decide_eq_false_iff_not, hkm] at hc; omega
    subst h
    have hfin : kcpL ks ks.length = ks.map (kindA true) := by simp [kcpL]
    rw [hfin] at hM
    subst hM
    (repeat (first | refine WK ?_ | refine All.i fun X => ?_ | refine AllY.i fun Y => ?_))
    (refine AWP.ret ?_; (repeat (first | refine inB_r ?_ | refine andThen_r ?_)); refine retQ_r ?_)
    exact ⟨[.sl K 0 (ks.map (kindA false)).length], [kindsA true true ks], _, [], .cons (.tmp rfl) rfl .nil, .cons (.cell (.sl (p := 0) .here (by simp))) .nil, by exact Sub.f, rfl, rfl⟩
end Go.Proofs.YtkoehhpfjpdkcaaGreat

namespace Go.Proofs.YtkoehhpfjpdkcaaGreat
set_option linter.unusedVariables false
/-- An item whose list of components is its own. -/
def itemB (x : Item) : AV := .agg [iA x.ent.n, iA x.ent.gen, compsA true false x.comps]
instance {x : Item} : Frz (itemB x) (itemA false x) := ⟨by unfold itemB itemA; exact Frz.h⟩
abbrev itemsB (o : Bool) (l : List Item) : AV := .lst o 48 3 (l.map itemB)
/-- A world whose lists are its own. -/
def wdCp (w : Wd) : AV := .agg [kindsA true true w.kinds, intsA true w.gens, itemsB true w.items]
abbrev itemZ : AV := .agg [iA 0, iA 0, .prim (.slice none 0 0)]
set_option maxRecDepth 8000 in
set_option maxHeartbeats 2000000 in
theorem copy_ps (w : Wd) (hw : WdL w) : PS Tryz.prog 24 [wdA false w] (wdCp w) := by
  obtain ⟨ks, gens, items⟩ := w
  obtain ⟨⟨hk0, hk1⟩, hg, hi0, hi1⟩ := hw
  dsimp only at hk0 hk1 hg hi0 hi1
  have hkc := kindCopy_ps ks hk0 hk1
  have hgc := cloneI_ps gens (by omega)
  have hgm : (gens.map iA).length = gens.length := List.length_map _
  have him : (items.map (itemA false)).length = items.length := List.length_map _
  refine Spec.of (nt := 37) (res := [.cell 2 27]) Tryz.func24 rfl (by kernel_rfl) rfl rfl rfl fun Sf => ?_
  (repeat refine WF ?_); refine AWP.region ?_; (repeat (first | (refine AOps.gN ?_; first | (refine AOps.g_box ?_; refine AOps.goB ?_)) | refine WO ?_ | refine All.i fun R => ?_ | refine AllY.i fun Y => ?_)); refine AOps.nil ?_; (repeat refine WN ?_)
  (repeat refine WF ?_)
  refine AWP.rs fun W3 => AWP.rs fun I => AWP.rs fun G => AWP.rs fun K => ?_
  (repeat refine WF ?_); refine AWP.region_run (by kernel_rfl) (by kernel_rfl) ?_; (repeat (first | (refine RGo.gN ?_; first | refine RGo.t1 (h := hkc) (k := ?_) | refine RGo.t1 (h := hgc) (k := ?_) | refine RGo.s (W.make rfl rfl (by exact At.f) rfl (.inl rfl) rfl rfl (Nat.le_refl _) (by rw [him]; omega) (by rw [him]; unfold maxLen; omega)) rfl ?_) | (refine RGo.gQ ?_; first | refine RGo.t1 (h := hkc) (k := ?_) | refine RGo.t1 (h := hgc) (k := ?_) | refine RGo.s (W.make rfl rfl (by exact At.f) rfl (.inl rfl) rfl rfl (Nat.le_refl _) (by rw [him]; omega) (by rw [him]; unfold maxLen; omega)) rfl ?_) | refine RK ?_ | refine RGo.nil (by kernel_rfl) ?_))
  have hz0 : List.replicate (items.map (itemA false)).length (zAV [.int .i64 0, .int .i64 0, .slice none 0 0] true) = fillTo itemB itemZ items 0 := by rw [fillTo_zero, him]; rfl
  rw [hz0]
  (repeat first | refine AOps.nil ?_ | refine WF ?_)
  (repeat refine WF ?_); refine AWP.region ?_; (repeat (first | refine WO ?_ | refine All.i fun X => ?_ | refine AllY.i fun Y => ?_)); refine AOps.nil ?_; (repeat refine WN ?_)
  (repeat first | refine AOps.nil ?_ | refine WF ?_)
  refine AWP.lp2 (fun (i : Nat) (M : List AV) => ⟨[(2, .ptr R 0 0), (3, .ptr W3 0 0), (18, itemsA false false items), (19, iA (items.map (itemA false)).length), (20, iA i)], (K, .row 102 2 (ks.map (kindA true))) :: (G, .row 3 1 (gens.map iA)) :: (I, .row 48 3 M) :: (W3, .row 27 3 [.agg [.sl K 0 (ks.map (kindA true)).length, .sl G 0 (gens.map iA).length, .sl I 0 (items.map (itemA false)).length]]) :: (R, .row 27 3 [.agg [.prim (.slice none 0 0), .prim (.slice none 0 0), .prim (.slice none 0 0)]]) :: Sf⟩) (fun i M => i ≤ items.length ∧ M = fillTo itemB itemZ items i) (fun i _ => items.length - i) 0 _ ⟨Nat.zero_le _, rfl⟩ ?_
  rintro i M ⟨hi, hM⟩
  (repeat (first | refine WK ?_ | refine All.i fun X => ?_ | refine AllY.i fun Y => ?_))
  refine AWP.cond rfl (fun hc => ?_) (fun hc => ?_)
  · have h : i < items.length := by rw [decide_eq_true_eq, him] at hc; omega
    have hset := fillTo_set itemB itemZ items h
    have hMat : M[i]? = some itemZ := by rw [hM]; exact fillTo_at _ _ _ h
    have hMl : M.length = items.length := by rw [hM]; exact fillTo_len _ _ _ _ hi
    have hcl := hi1 _ (List.getElem_mem h)
    obtain ⟨⟨⟨en, eg⟩, cs⟩, hit⟩ : ∃ it, items[i] = it := ⟨_, rfl⟩
    rw [hit] at hset hcl
    have hat : (items.map (itemA false))[i]? = some (itemA false ⟨⟨en, eg⟩, cs⟩) := by rw [List.getElem?_map, List.getElem?_eq_getElem h, hit]; rfl
    have hil : i < (items.map (itemA false)).length := by omega
    have hcc := copyComps_ps cs hcl.1 hcl.2
    have hcm : (cs.map (compA false)).length = cs.length := List.length_map _
    (repeat (first | refine WK ?_ | refine All.i fun V => ?_ | refine AllY.i fun Y => ?_))
    refine AWP.rs fun Y => ?_
    (repeat refine WF ?_); refine AWP.region_run (by kernel_rfl) (by kernel_rfl) ?_; (repeat (first | (refine RGo.gN ?_; first | refine RGo.t1 (h := hcc) (k := ?_)) | (refine RGo.gQ ?_; first | refine RGo.t1 (h := hcc) (k := ?_)) | refine RK ?_ | refine RGo.nil (by kernel_rfl) ?_))
    (repeat refine WF ?_)
    have hMs : (M.set i (.agg [iA en, iA eg, .sl Y 0 (cs.map (compA false)).length]))[i]? = some (.agg [iA en, iA eg, .sl Y 0 (cs.map (compA false)).length]) := by rw [List.getElem?_set_self (by omega)]
    refine AWP.closeIn (X := Y) (Y := I) (by exact At.f) (by exact At.f) rfl rfl (Hos.at hMs (.agg (.tail (.tail (.head .here))))) ?_
    rw [List.set_set]
    (repeat (first | refine WK ?_ | refine All.i fun X => ?_ | refine AllY.i fun Y => ?_))
    refine lp_next2 (i + 1) _ ⟨h, ?_⟩
    rw [hM]; exact hset
  · have h : i = items.length := by rw [decide_eq_false_iff_not, him] at hc; omega
    subst h
    rw [fillTo_all _ _ _ (Nat.le_refl _)] at hM
    subst hM
    have hkl : (ks.map (kindA true)).length = (ks.map (kindA true)).length := rfl
    have hI : (items.map (itemA false)).length = (items.map itemB).length := by simp
    (repeat (first | refine WK ?_ | refine All.i fun X => ?_ | refine AllY.i fun Y => ?_))
    (refine AWP.ret ?_; (repeat (first | refine inB_r ?_ | refine andThen_r ?_)); refine retQ_r ?_)
    exact ⟨[.agg [.sl K 0 (ks.map (kindA true)).length, .sl G 0 (gens.map iA).length, .sl I 0 (items.map (itemA false)).length]], [wdCp ⟨ks, gens, items⟩], _, [], .cons (.cell (p := 4) rfl (by exact At.f) TAg.h TSize.h rfl rfl) rfl .nil, .cons (.agg (.cons (.sl (p := 0) .here rfl) (.cons (.sl (p := 0) .here rfl) (.cons (.sl (p := 0) .here hI) .nil)))) .nil, by exact Sub.f, rfl, rfl⟩
end Go.Proofs.YtkoehhpfjpdkcaaGreat

namespace Go.Proofs.YtkoehhpfjpdkcaaGreat
set_option linter.unusedVariables false
theorem TW.fz {a b : AV} [h : Frz a b] : TW a b [] := h.h ▸ .frz
theorem items_frzB (l : List Item) : AV.frzs (l.map itemB) = l.map (itemA false) := (inferInstance : Frzs (l.map itemB) (l.map (itemA false))).h
end Go.Proofs.YtkoehhpfjpdkcaaGreat

namespace Go.Proofs.YtkoehhpfjpdkcaaGreat
set_option linter.unusedVariables false
end Go.Proofs.YtkoehhpfjpdkcaaGreat

namespace Go.Proofs.YtkoehhpfjpdkcaaGreat
set_option linter.unusedVariables false
end Go.Proofs.YtkoehhpfjpdkcaaGreat

namespace Go.Proofs.YtkoehhpfjpdkcaaGreat
set_option linter.unusedVariables false
end Go.Proofs.YtkoehhpfjpdkcaaGreat

/-
  Layer 15, plain: sums and limits of small numbers.
-/
import Derived.Test.YthlpjpcmbpbplaaAmp
import Derived.Test.YthlpjpcmbpbplaaSatP
namespace Go.Proofs.Ythlpjpcmbpbplaa
namespace Amp
theorem add_small {g n : Int} (g0 : 0 ≤ g) (g1 : g ≤ 1000000000) (n0 : 0 ≤ n) (n1 : n ≤ 1000000000) : Sat.add g n = g + n := by unfold Sat.add Sat.num; omega
theorem mul_small {g : Int} (g0 : 0 ≤ g) (g1 : g ≤ 1000000000) : Sat.mul 3 g = 3 * g := by
  rw [Sat.quo_one, Sat.num_id g0 (by omega), Sat.num_id (by omega) (by omega)]; omega
theorem left_small {g s : Int} (g0 : 0 ≤ g) (g1 : g ≤ 1000000000) (s0 : 0 ≤ s) (s1 : s ≤ 3 * g) : left false g s = 3 * g - s := by
  show Sat.sub (Sat.mul 3 g) s = _
  rw [mul_small g0 g1]; unfold Sat.sub Sat.num; omega
theorem ok_of {n : Int} (n0 : 0 ≤ n) (n1 : n ≤ 65535) : ok n = true := by unfold ok; simp; omega
theorem gotE_ok {n : Int} (n0 : 0 ≤ n) (n1 : n ≤ 65535) : gotE n = 0 := by unfold gotE; rw [ok_of n0 n1]; rfl
theorem gotG_ok {g n : Int} (g0 : 0 ≤ g) (g1 : g ≤ 1000000000) (n0 : 0 ≤ n) (n1 : n ≤ 65535) : gotG g n = g + n := by
  unfold gotG; rw [ok_of n0 n1, if_pos rfl]; exact add_small g0 g1 n0 (by omega)
theorem sentE_ok {v : Bool} {g s n : Int} (n0 : 0 ≤ n) (n1 : n ≤ 65535) (h : n ≤ left v g s) : sentE v g s n = 0 := by unfold sentE; rw [ok_of n0 n1, if_pos rfl, if_pos h]
theorem sentE_no {v : Bool} {g s n : Int} (n0 : 0 ≤ n) (n1 : n ≤ 65535) (h : ¬ n ≤ left v g s) : sentE v g s n = 212 := by unfold sentE; rw [ok_of n0 n1, if_pos rfl, if_neg h]
theorem sentS_ok {v : Bool} {g s n : Int} (n0 : 0 ≤ n) (n1 : n ≤ 65535) (h : n ≤ left v g s) (s0 : 0 ≤ s) (s1 : s ≤ 1000000000) : sentS v g s n = s + n := by
  unfold sentS can; rw [ok_of n0 n1]; simp [h]; exact add_small s0 s1 n0 (by omega)
theorem sentS_no {v : Bool} {g s n : Int} (n0 : 0 ≤ n) (n1 : n ≤ 65535) (h : ¬ n ≤ left v g s) : sentS v g s n = s := by
  unfold sentS can; rw [ok_of n0 n1]; simp [h]
theorem can_ok {v : Bool} {g s n : Int} (n0 : 0 ≤ n) (n1 : n ≤ 65535) (h : n ≤ left v g s) : can v g s n = true := by unfold can; rw [ok_of n0 n1]; simp [h]
end Amp
end Go.Proofs.Ythlpjpcmbpbplaa

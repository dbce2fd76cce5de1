/-
  The statements of layer 1: what the chapter's numbers come to ('works'), and the laws that hold the program to the document's answer.
-/
import Derived.Test.YthaagkhmmoebaaaSatC
namespace Go.Proofs.Ythaagkhmmoebaaa
open Go.RowKit Go.Sort

set_option maxRecDepth 100000 in
theorem works_any (w : World) :
    Calls Try.prog 26 #[] w fun e w' => e = .returned (.bool true) ∧ Below w.heap.size w w' := by
  have k1 : Sat.add 9007199254740991 1 = 9007199254740991 := by decide
  have k2 : Sat.sub 3 5 = 0 := by decide
  have k3 : Sat.mul 1099511627776 1099511627776 = 9007199254740991 := by decide
  have k4 : Sat.add (-7) 2 = 2 := by decide
  have k5 : Sat.quo 7 5 4 = 8 := by decide
  have k6 : Sat.up 7 5 4 = 9 := by decide
  have k7 : Sat.quo 4503599627370496 4503599627370496 4503599627370496 = 4503599627370496 := by decide
  have k8 : Sat.up 1 0 3 = 0 := by decide
  have k9 : Sat.quo 1 1 0 = 9007199254740991 := by decide
  have k10 : Sat.rest 7 5 4 = 3 := by decide
  have k11 : Sat.quo 9007199254740991 3 2 = 9007199254740991 := by decide
  have k12 : Sat.rest 9007199254740991 3 2 = 0 := by decide
  have k13 : Sat.earlier (-1) 5 = 5 := by decide
  have k14 : Sat.later (-1) 5 = -1 := by decide
  have k15 : Sat.ends (-1) 3 = -1 := by decide
  have k16 : Sat.ends 9007199254740990 9 = 9007199254740991 := by decide
  have k17 : Sat.earlier (-5) (-1) = -1 := by decide
  go_enter Try.func26, Try.ntmps26
  go_wp2_with (first | (go_at_call 10; (with_reducible refine (is_any _ _).mono ?_); rintro e w1 ⟨rfl, hb⟩) | (go_at_call 12; (with_reducible refine (num_any _ _).mono ?_); rintro e w1 ⟨rfl, hb⟩) | (go_at_call 14; (with_reducible refine (add_any _ _ _).mono ?_); rintro e w1 ⟨rfl, hb⟩) | (go_at_call 16; (with_reducible refine (sub_any _ _ _).mono ?_); rintro e w1 ⟨rfl, hb⟩) | (go_at_call 18; (with_reducible refine (mul_any _ _ _).mono ?_); rintro e w1 ⟨rfl, hb⟩) | (go_at_call 22; (with_reducible refine (muldiv_any _ _ _ _).mono ?_); rintro e w1 ⟨rfl, hb⟩) | (go_at_call 24; (with_reducible refine (mulup_any _ _ _ _).mono ?_); rintro e w1 ⟨rfl, hb⟩) | (go_at_call 20; (with_reducible refine (mulrest_any _ _ _ _).mono ?_); rintro e w1 ⟨rfl, hb⟩) | (go_at_call 29; (with_reducible refine (istime_any _ _).mono ?_); rintro e w1 ⟨rfl, hb⟩) | (go_at_call 31; (with_reducible refine (earlier_any _ _ _).mono ?_); rintro e w1 ⟨rfl, hb⟩) | (go_at_call 33; (with_reducible refine (later_any _ _ _).mono ?_); rintro e w1 ⟨rfl, hb⟩) | (go_at_call 35; (with_reducible refine (ends_any _ _ _).mono ?_); rintro e w1 ⟨rfl, hb⟩))
  go_ret
  exact ⟨rfl, (by repeat (first | with_reducible assumption | with_reducible exact Below.refl _ _ | with_reducible exact later ‹_› ‹_› | refine later ?_ (by with_reducible assumption) | refine laterA ?_ _ | refine laterDN ?_ _ | refine laterD ?_ | refine laterR ?_ _ _))⟩

set_option maxRecDepth 100000 in
theorem satanswers_any (a b c : Int) (w : World) :
    Calls Try.prog 3 #[.int .i64 a, .int .i64 b, .int .i64 c] w fun e w' => e = .returned (.bool true) ∧ Below w.heap.size w w' := by
  go_enter Try.func3, Try.ntmps3
  go_wp2_with (first | (go_at_call 10; (with_reducible refine (is_any _ _).mono ?_); rintro e w1 ⟨rfl, hb⟩) | (go_at_call 12; (with_reducible refine (num_any _ _).mono ?_); rintro e w1 ⟨rfl, hb⟩) | (go_at_call 14; (with_reducible refine (add_any _ _ _).mono ?_); rintro e w1 ⟨rfl, hb⟩) | (go_at_call 16; (with_reducible refine (sub_any _ _ _).mono ?_); rintro e w1 ⟨rfl, hb⟩) | (go_at_call 18; (with_reducible refine (mul_any _ _ _).mono ?_); rintro e w1 ⟨rfl, hb⟩) | (go_at_call 22; (with_reducible refine (muldiv_any _ _ _ _).mono ?_); rintro e w1 ⟨rfl, hb⟩) | (go_at_call 24; (with_reducible refine (mulup_any _ _ _ _).mono ?_); rintro e w1 ⟨rfl, hb⟩) | (go_at_call 20; (with_reducible refine (mulrest_any _ _ _ _).mono ?_); rintro e w1 ⟨rfl, hb⟩) | (go_at_call 29; (with_reducible refine (istime_any _ _).mono ?_); rintro e w1 ⟨rfl, hb⟩) | (go_at_call 31; (with_reducible refine (earlier_any _ _ _).mono ?_); rintro e w1 ⟨rfl, hb⟩) | (go_at_call 33; (with_reducible refine (later_any _ _ _).mono ?_); rintro e w1 ⟨rfl, hb⟩) | (go_at_call 35; (with_reducible refine (ends_any _ _ _).mono ?_); rintro e w1 ⟨rfl, hb⟩) | (go_at_call 11; (with_reducible refine (ris_any _ _).mono ?_); rintro e w1 ⟨rfl, hb⟩) | (go_at_call 13; (with_reducible refine (rnum_any _ _).mono ?_); rintro e w1 ⟨rfl, hb⟩) | (go_at_call 15; (with_reducible refine (radd_any _ _ _).mono ?_); rintro e w1 ⟨rfl, hb⟩) | (go_at_call 17; (with_reducible refine (rsub_any _ _ _).mono ?_); rintro e w1 ⟨rfl, hb⟩) | (go_at_call 19; (with_reducible refine (rmul_any _ _ _).mono ?_); rintro e w1 ⟨rfl, hb⟩) | (go_at_call 23; (with_reducible refine (rmuldiv_any _ _ _ _).mono ?_); rintro e w1 ⟨rfl, hb⟩) | (go_at_call 25; (with_reducible refine (rmulup_any _ _ _ _).mono ?_); rintro e w1 ⟨rfl, hb⟩) | (go_at_call 21; (with_reducible refine (rmulrest_any _ _ _ _).mono ?_); rintro e w1 ⟨rfl, hb⟩) | (go_at_call 30; (with_reducible refine (ristime_any _ _).mono ?_); rintro e w1 ⟨rfl, hb⟩) | (go_at_call 32; (with_reducible refine (rearlier_any _ _ _).mono ?_); rintro e w1 ⟨rfl, hb⟩) | (go_at_call 34; (with_reducible refine (rlater_any _ _ _).mono ?_); rintro e w1 ⟨rfl, hb⟩) | (go_at_call 36; (with_reducible refine (rends_any _ _ _).mono ?_); rintro e w1 ⟨rfl, hb⟩) | (go_at_call 26; (with_reducible refine (works_any _).mono ?_); rintro e w1 ⟨rfl, hb⟩))
  go_ret
  exact ⟨rfl, (by repeat (first | with_reducible assumption | with_reducible exact Below.refl _ _ | with_reducible exact later ‹_› ‹_› | refine later ?_ (by with_reducible assumption) | refine laterA ?_ _ | refine laterDN ?_ _ | refine laterD ?_ | refine laterR ?_ _ _))⟩

theorem sattells_any (a b : Int) (w : World) :
    Calls Try.prog 7 #[.int .i64 a, .int .i64 b] w fun e w' => e = .returned (.bool true) ∧ Below w.heap.size w w' := by
  go_enter Try.func7, Try.ntmps7
  go_wp2_with (first | (go_at_call 10; (with_reducible refine (is_any _ _).mono ?_); rintro e w1 ⟨rfl, hb⟩) | (go_at_call 12; (with_reducible refine (num_any _ _).mono ?_); rintro e w1 ⟨rfl, hb⟩) | (go_at_call 14; (with_reducible refine (add_any _ _ _).mono ?_); rintro e w1 ⟨rfl, hb⟩) | (go_at_call 16; (with_reducible refine (sub_any _ _ _).mono ?_); rintro e w1 ⟨rfl, hb⟩) | (go_at_call 18; (with_reducible refine (mul_any _ _ _).mono ?_); rintro e w1 ⟨rfl, hb⟩) | (go_at_call 22; (with_reducible refine (muldiv_any _ _ _ _).mono ?_); rintro e w1 ⟨rfl, hb⟩) | (go_at_call 24; (with_reducible refine (mulup_any _ _ _ _).mono ?_); rintro e w1 ⟨rfl, hb⟩) | (go_at_call 20; (with_reducible refine (mulrest_any _ _ _ _).mono ?_); rintro e w1 ⟨rfl, hb⟩) | (go_at_call 29; (with_reducible refine (istime_any _ _).mono ?_); rintro e w1 ⟨rfl, hb⟩) | (go_at_call 31; (with_reducible refine (earlier_any _ _ _).mono ?_); rintro e w1 ⟨rfl, hb⟩) | (go_at_call 33; (with_reducible refine (later_any _ _ _).mono ?_); rintro e w1 ⟨rfl, hb⟩) | (go_at_call 35; (with_reducible refine (ends_any _ _ _).mono ?_); rintro e w1 ⟨rfl, hb⟩) | (go_at_call 11; (with_reducible refine (ris_any _ _).mono ?_); rintro e w1 ⟨rfl, hb⟩) | (go_at_call 13; (with_reducible refine (rnum_any _ _).mono ?_); rintro e w1 ⟨rfl, hb⟩) | (go_at_call 15; (with_reducible refine (radd_any _ _ _).mono ?_); rintro e w1 ⟨rfl, hb⟩) | (go_at_call 17; (with_reducible refine (rsub_any _ _ _).mono ?_); rintro e w1 ⟨rfl, hb⟩) | (go_at_call 19; (with_reducible refine (rmul_any _ _ _).mono ?_); rintro e w1 ⟨rfl, hb⟩) | (go_at_call 23; (with_reducible refine (rmuldiv_any _ _ _ _).mono ?_); rintro e w1 ⟨rfl, hb⟩) | (go_at_call 25; (with_reducible refine (rmulup_any _ _ _ _).mono ?_); rintro e w1 ⟨rfl, hb⟩) | (go_at_call 21; (with_reducible refine (rmulrest_any _ _ _ _).mono ?_); rintro e w1 ⟨rfl, hb⟩) | (go_at_call 30; (with_reducible refine (ristime_any _ _).mono ?_); rintro e w1 ⟨rfl, hb⟩) | (go_at_call 32; (with_reducible refine (rearlier_any _ _ _).mono ?_); rintro e w1 ⟨rfl, hb⟩) | (go_at_call 34; (with_reducible refine (rlater_any _ _ _).mono ?_); rintro e w1 ⟨rfl, hb⟩) | (go_at_call 36; (with_reducible refine (rends_any _ _ _).mono ?_); rintro e w1 ⟨rfl, hb⟩) | (go_at_call 26; (with_reducible refine (works_any _).mono ?_); rintro e w1 ⟨rfl, hb⟩))
  go_ret
  exact ⟨rfl, (by repeat (first | with_reducible assumption | with_reducible exact Below.refl _ _ | with_reducible exact later ‹_› ‹_› | refine later ?_ (by with_reducible assumption) | refine laterA ?_ _ | refine laterDN ?_ _ | refine laterD ?_ | refine laterR ?_ _ _))⟩

end Go.Proofs.Ythaagkhmmoebaaa

/-
  Layer 5: what Bytes puts, in the order of its walk.
-/
import Derived.Test.YtpagdcobhbkabaaDoorFrL
namespace Go.Proofs.YtpagdcobhbkabaaDoor
open Go.RowKit Go.Sort Go.Shelf Go.Deep Go.WideShapes

def wdW (x : Int × (Int × Int)) : Int := IntKind.i64.wrap (x.2.2 - x.2.1)
def seqW : Bool → List (Int × (Int × Int)) → List Int
  | _, [] => []
  | true, x :: t => wdW x :: seqW false t
  | false, x :: t => x.1 :: wdW x :: seqW false t
theorem seqW_snoc : ∀ (b : Bool) (pre : List (Int × (Int × Int))) (x : Int × (Int × Int)), seqW b (pre ++ [x]) = seqW b pre ++ (if b && pre.isEmpty then [wdW x] else [x.1, wdW x])
  | true, [], x => rfl
  | false, [], x => rfl
  | true, y :: t, x => by
    have ih := seqW_snoc false t x
    simp only [Bool.false_and, Bool.false_eq_true, if_false] at ih
    simp [seqW, ih]
  | false, y :: t, x => by
    have ih := seqW_snoc false t x
    simp only [Bool.false_and, Bool.false_eq_true, if_false] at ih
    simp [seqW, ih]
theorem seqW_len : ∀ (b : Bool) (l : List (Int × (Int × Int))), (seqW b l).length ≤ 2 * l.length
  | true, [] => by simp [seqW]
  | false, [] => by simp [seqW]
  | true, x :: t => by
    have ih := seqW_len false t
    simp only [seqW, List.length_cons]
    omega
  | false, x :: t => by
    have ih := seqW_len false t
    simp only [seqW, List.length_cons]
    omega
def gapt : (Int × Int) → List (Int × Int) → List (Int × (Int × Int))
  | _, [] => []
  | p, q :: t => (p.1 - q.2 - 2, q) :: gapt q t
theorem gapt_at : ∀ (t : List (Int × Int)) (p : Int × Int) (i : Nat), (gapt p t)[i]? = if i < t.length then some (gpk (p :: t) (i + 1)) else none
  | [], p, i => by simp [gapt]
  | q :: t, p, 0 => by simp [gapt, gpk]
  | q :: t, p, i + 1 => by
    have ih := gapt_at t q i
    simp only [gapt, List.getElem?_cons_succ, ih, List.length_cons]
    by_cases h : i < t.length
    · rw [if_pos h, if_pos (by omega)]
      simp [gpk]
    · rw [if_neg h, if_neg (by omega)]
theorem gpn_cons (p : Int × Int) (t : List (Int × Int)) : gpn (p :: t) (t.length + 1) = (0, p) :: gapt p t := by
  apply List.ext_getElem?
  intro i
  unfold gpn
  rw [List.getElem?_map]
  cases i with
  | zero => simp [gpk]
  | succ i =>
    rw [List.getElem?_cons_succ, gapt_at]
    by_cases h : i < t.length
    · rw [if_pos h, List.getElem?_range (by omega)]
      rfl
    · rw [if_neg h, List.getElem?_eq_none (by simp; omega)]
      rfl
theorem wdW_ok {x : Int × (Int × Int)} (h : Frm.okR x.2 = true) : wdW x = x.2.2 - x.2.1 := by
  have := (Frm.okR_iff _).1 h
  unfold wdW
  exact IntWalk.i64_in _ (by omega)
theorem lst_gapt : ∀ (t : List (Int × Int)) (p : Int × Int), (p :: t).all Frm.okR = true → Frm.lst (p :: t) = (p.2 - p.1) :: seqW false (gapt p t)
  | [], p, _ => rfl
  | q :: t, p, h => by
    have h2 : (q :: t).all Frm.okR = true := by simp only [List.all_cons, Bool.and_eq_true] at h ⊢; exact h.2
    have hq : Frm.okR q = true := by simp only [List.all_cons, Bool.and_eq_true] at h2; exact h2.1
    have ih := lst_gapt t q h2
    rw [Frm.lst_cons2, ih]
    simp only [gapt, seqW]
    rw [wdW_ok (x := (p.1 - q.2 - 2, q)) hq]
theorem seqW_lst (rs : List (Int × Int)) (h : rs.all Frm.okR = true) : seqW true (gpn rs rs.length) = Frm.lst rs := by
  cases rs with
  | nil => rfl
  | cons p t =>
    have hp : Frm.okR p = true := by simp only [List.all_cons, Bool.and_eq_true] at h; exact h.1
    rw [lst_gapt t p h, List.length_cons, gpn_cons]
    simp only [seqW]
    rw [wdW_ok (x := (0, p)) hp]
theorem lst_isN : ∀ (t : List (Int × Int)) (p : Int × Int), (p :: t).all Frm.okR = true → Frm.gapsOk (p :: t) = true → ∀ n ∈ Frm.lst (p :: t), Frm.isN n = true
  | [], p, h, _ => by
    have hp := (Frm.okR_iff p).1 (List.all_eq_true.1 h p (by simp))
    intro n hn
    simp only [Frm.lst, List.mem_cons, List.not_mem_nil, or_false] at hn
    subst hn
    exact (Frm.isN_iff _).2 (by omega)
  | q :: t, p, h, hg => by
    have hp := (Frm.okR_iff p).1 (List.all_eq_true.1 h p (by simp))
    have hq := (Frm.okR_iff q).1 (List.all_eq_true.1 h q (by simp))
    simp only [Frm.gapsOk, Bool.and_eq_true, decide_eq_true_eq] at hg
    have ih := lst_isN t q (by simp only [List.all_cons, Bool.and_eq_true] at h ⊢; exact h.2) hg.2
    intro n hn
    rw [Frm.lst_cons2] at hn
    simp only [List.mem_cons] at hn
    rcases hn with rfl | rfl | hn
    · exact (Frm.isN_iff _).2 (by omega)
    · exact (Frm.isN_iff _).2 (by omega)
    · exact ih n hn
theorem nums_isN {a : Frm.Ak} (h : Frm.chk a = true) : ∀ n ∈ Frm.nums a, Frm.isN n = true := by
  obtain ⟨⟨p, t, hr, ht⟩, hd, hall, hg, ⟨he0, he1, he2⟩, _⟩ := Frm.chk_parts h
  have hp := (Frm.okR_iff p).1 (List.all_eq_true.1 hall p (by simp [hr]))
  intro n hn
  unfold Frm.nums at hn
  rw [hr] at hn hall hg
  simp only [List.headD_cons, List.mem_cons, List.mem_append, List.length_cons] at hn
  rcases hn with rfl | rfl | rfl | hn | hn
  · exact (Frm.isN_iff _).2 (by omega)
  · exact hd
  · exact (Frm.isN_iff _).2 (by omega)
  · exact lst_isN t p hall hg n hn
  · split at hn
    · simp only [List.mem_cons, List.not_mem_nil, or_false] at hn
      rcases hn with rfl | rfl | rfl
      · exact he0
      · exact he1
      · exact he2
    · simp at hn
/-- What Bytes lays down, put by put. -/
theorem bytes_putL {a : Frm.Ak} (h : Frm.chk a = true) (m : Nat) (hm : a.rs.length = m) :
    putL (putL (putL [if a.mkd then 3 else 2] [(a.rs.headD (0, 0)).2, a.d, (m : Int) - 1]) (seqW true (gpn a.rs m))) (if a.mkd then [a.e0, a.e1, a.e2] else []) = (Frm.bytes a).1 := by
  obtain ⟨_, hd, hall, hg, _, _⟩ := Frm.chk_parts h
  rw [← putL_append, ← putL_append, ← hm, seqW_lst _ hall]
  have hn : ([(a.rs.headD (0, 0)).2, a.d, (a.rs.length : Int) - 1] ++ (Frm.lst a.rs ++ if a.mkd = true then [a.e0, a.e1, a.e2] else [])) = Frm.nums a := by
    unfold Frm.nums
    simp
  rw [hn, putL_good _ _ (nums_isN h)]
  unfold Frm.bytes
  rw [if_pos h]
  rfl
end Go.Proofs.YtpagdcobhbkabaaDoor

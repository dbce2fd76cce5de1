/-
  Layer 14, plain: a pacer that plays; what it lets go is at most the burst and what its rates let through.
-/
import Derived.Test.YtniiemmgcjkphaaPacH
import Derived.Test.YtniiemmgcjkphaaBktR
import Derived.Test.YtniiemmgcjkphaaPacF
namespace Go.Proofs.Ytniiemmgcjkphaa
namespace Bkt
theorem fill_mass {s : St} {t num den : Int} (hd : 1 ≤ den) : den * (fill s t num den).n + kept (fill s t num den) num den ≤ den * s.n + parts s t num den := by
  have e := Int.mul_ediv_add_emod (parts s t num den) den
  have hm := Int.emod_nonneg (parts s t num den) (show den ≠ 0 by omega)
  have h3 := Int.mul_add den s.n (parts s t num den / den)
  unfold fill
  by_cases hb : s.B ≤ s.n + parts s t num den / den
  · rw [if_pos hb]
    have h1 : den * s.B ≤ den * (s.n + parts s t num den / den) := Int.mul_le_mul_of_nonneg_left hb (by omega)
    have hk : kept ⟨s.B, s.B, 0, t, num, den⟩ num den = 0 := by unfold kept; split <;> rfl
    rw [hk]; simp only; omega
  · rw [if_neg hb]
    have hk : kept ⟨s.B, s.n + parts s t num den / den, parts s t num den % den, t, num, den⟩ num den = parts s t num den % den := by unfold kept; rw [if_pos ⟨rfl, rfl⟩]
    rw [hk]; simp only; omega
end Bkt
namespace Pac
theorem whole_lo (a : Int) : ∀ (l : List Pc), (∀ q ∈ l, 0 ≤ q.num ∧ 1 ≤ q.den) → 0 ≤ whole l a
  | [], _ => Int.le_refl _
  | [_], _ => Int.le_refl _
  | p :: q :: r, h => by
    have h1 := h p (by simp)
    have h2 := part_lo p a q.f h1.1 h1.2
    have ih := whole_lo a (q :: r) (fun x hx => h x (List.mem_cons_of_mem _ hx))
    show 0 ≤ part p a q.f + whole (q :: r) a
    omega

/-- How a pacer stands that has played: the burst, the time, the pieces (the last one apart), what went. -/
structure PInv (B T : Int) (s : St) (l : List Pc) (p : Pc) (gs : List (Int × Int)) : Prop where
  wf : wf s
  hB : s.b.B = B
  t0 : s.b.t ≤ T
  num : p.num = s.num
  den : p.den = s.den
  fs : ∀ q ∈ l ++ [p], q.f ≤ s.b.t
  ok : ∀ q ∈ l ++ [p], 0 ≤ q.num ∧ 1 ≤ q.den
  gt : ∀ g ∈ gs, g.1 ≤ s.b.t
  now : ∀ i (h : i < gs.length), s.den * (Bkt.seg (gs.map (·.2)) i gs.length + s.b.n) + Bkt.kept s.b s.num s.den ≤ s.den * (B + whole (l ++ [p]) gs[i].1) + (s.b.t - max gs[i].1 p.f) * s.num + (s.den - 1)
  good : ∀ i j (h : i ≤ j) (hj : j < gs.length), Bkt.seg (gs.map (·.2)) i (j + 1) ≤ B + through (l ++ [p]) (gs[i]'(by omega)).1 gs[j].1
  full : gs = [] → s.b.n = B

/-- Time passes. -/
theorem pinv_come {B T t : Int} {s : St} {l : List Pc} {p : Pc} {gs : List (Int × Int)} (h : PInv B T s l p gs) (ht : s.b.t ≤ t) (hT : t ≤ T) (t1 : t ≤ 9007199254740991) :
    PInv B T (come s t) l p gs := by
  obtain ⟨m0, m1, m2, m3⟩ := (Bkt.may_iff _ _).1 h.wf.may
  have hfs := Bkt.fillS_of (s := s.b) (t := t) h.wf.may h.wf.b.t0 ht t1
  have hwf := wf_come h.wf t
  have e : (come s t).b = Bkt.fill s.b t s.num s.den := hfs
  have en : (come s t).num = s.num := rfl
  have ed : (come s t).den = s.den := rfl
  have et : (come s t).b.t = t := by rw [e]; exact Bkt.fill_t _ _ _ _
  have eB : (come s t).b.B = B := by rw [e, Bkt.fill_B]; exact h.hB
  have hm := Bkt.fill_mass (s := s.b) (t := t) (num := s.num) (den := s.den) m2
  rw [← e] at hm
  refine ⟨hwf, eB, by rw [et]; exact hT, by rw [en]; exact h.num, by rw [ed]; exact h.den, fun q hq => by rw [et]; have := h.fs q hq; omega, h.ok, fun g hg => by rw [et]; have := h.gt g hg; omega, fun i hi => ?_, h.good, fun hg => ?_⟩
  · have h1 := h.now i hi
    rw [en, ed, et]
    have hp : Bkt.parts s.b t s.num s.den = (t - s.b.t) * s.num + Bkt.kept s.b s.num s.den := rfl
    rw [hp] at hm
    have e1 : (t - max gs[i].1 p.f) * s.num = (t - s.b.t) * s.num + (s.b.t - max gs[i].1 p.f) * s.num := by rw [← Int.add_mul]; congr 1; omega
    rw [e1, Int.mul_add]
    rw [Int.mul_add] at h1
    omega
  · have h1 := h.full hg
    have h2 := Bkt.fill_lo h.wf.b ht m0 m2
    have h3 := hwf.b.n1
    rw [eB] at h3
    rw [← e] at h2
    omega

theorem le_of_den {den x y z : Int} (hd : 1 ≤ den) (h : den * x ≤ den * y + z + (den - 1)) : x ≤ y + (z + den - 1) / den := by
  have h1 : den * (x - y) ≤ z + den - 1 := by rw [Int.mul_sub]; omega
  have h2 : x - y ≤ (z + den - 1) / den := by
    rw [Int.le_ediv_iff_mul_le (by omega), Int.mul_comm]; exact h1
  omega
/-- What may have gone by now, of the last one at a time. -/
theorem part_now {p : Pc} {a b : Int} (hd : 1 ≤ p.den) (ha : a ≤ b) (hf : p.f ≤ b) : part p a b = ((b - max a p.f) * p.num + p.den - 1) / p.den := by
  unfold part
  by_cases h : max a p.f < b
  · rw [if_pos h]
  · have e : b - max a p.f = 0 := by omega
    rw [if_neg h, e, Int.zero_mul]
    rw [Int.ediv_eq_zero_of_lt (by omega) (by omega)]

/-- One goes. -/
theorem pinv_take {B T k : Int} {s : St} {l : List Pc} {p : Pc} {gs : List (Int × Int)} (h : PInv B T s l p gs) (k0 : 1 ≤ k) (k1 : k ≤ s.b.n) :
    PInv B T { s with b := { s.b with n := s.b.n - k } } l p (gs ++ [(s.b.t, k)]) := by
  obtain ⟨m0, m1, m2, m3⟩ := (Bkt.may_iff _ _).1 h.wf.may
  have hw := h.wf.b
  have hkeep : ∀ x : Int, Bkt.kept { s.b with n := x } s.num s.den = Bkt.kept s.b s.num s.den := fun x => rfl
  have k2 := Bkt.kept_lo hw s.num s.den
  have k3 := Bkt.kept_hi hw (num := s.num) m2
  have hwhole : ∀ a, 0 ≤ whole (l ++ [p]) a := fun a => whole_lo a _ h.ok
  have hpf : p.f ≤ s.b.t := h.fs p (by simp)
  have hlen : (gs ++ [(s.b.t, k)]).length = gs.length + 1 := by simp
  have e0 : (gs ++ [(s.b.t, k)]).map (·.2) = gs.map (·.2) ++ [k] := by simp
  have hnow : ∀ i (hi : i < (gs ++ [(s.b.t, k)]).length) (L : Nat), L = gs.length + 1 → s.den * (Bkt.seg ((gs ++ [(s.b.t, k)]).map (·.2)) i L + (s.b.n - k)) + Bkt.kept s.b s.num s.den ≤ s.den * (B + whole (l ++ [p]) (gs ++ [(s.b.t, k)])[i].1) + (s.b.t - max (gs ++ [(s.b.t, k)])[i].1 p.f) * s.num + (s.den - 1) := by
    intro i hi L hL
    subst hL
    have hseg : i ≤ gs.length → Bkt.seg ((gs ++ [(s.b.t, k)]).map (·.2)) i (gs.length + 1) = Bkt.seg (gs.map (·.2)) i gs.length + k := fun hle => by
      rw [List.map_append]
      have := Bkt.seg_snoc (gs.map (·.2)) k (i := i) (by simpa using hle)
      simpa using this
    by_cases hi' : i < gs.length
    · have h1 := h.now i hi'
      rw [hseg (by omega), List.getElem_append_left hi']
      rw [show Bkt.seg (gs.map (·.2)) i gs.length + k + (s.b.n - k) = Bkt.seg (gs.map (·.2)) i gs.length + s.b.n by omega]
      exact h1
    · obtain rfl : i = gs.length := by rw [hlen] at hi; omega
      rw [hseg (Nat.le_refl _), List.getElem_append_right (Nat.le_refl _)]
      simp only [Nat.sub_self, List.getElem_cons_zero]
      rw [Bkt.seg_self _ (by simp), show s.b.t - max s.b.t p.f = 0 by omega, Int.zero_mul]
      have h2 : s.den * (0 + k + (s.b.n - k)) ≤ s.den * (B + whole (l ++ [p]) s.b.t) := Int.mul_le_mul_of_nonneg_left (by have := hw.n1; have := h.hB; have := hwhole s.b.t; omega) (by omega)
      omega
  refine ⟨⟨⟨hw.B0, hw.B1, by simp only; omega, by have := hw.n1; simp only; omega, hw.r0, hw.r1, hw.t0, hw.t1⟩, h.wf.may⟩, h.hB, h.t0, h.num, h.den, h.fs, h.ok, fun g hg => ?_, fun i hi => hnow i hi _ hlen, fun i j hij hj => ?_, fun hg => by simp at hg⟩
  · rcases List.mem_append.1 hg with h1 | h1
    · exact h.gt g h1
    · rw [List.mem_singleton.1 h1]; exact Int.le_refl _
  · have hj0 := hj
    rw [hlen] at hj0
    by_cases hj' : j < gs.length
    · have h1 := h.good i j hij hj'
      rw [List.getElem_append_left hj', List.getElem_append_left (show i < gs.length by omega), e0, Bkt.seg_old _ _ (by simp; omega)]
      exact h1
    · obtain rfl : j = gs.length := by omega
      have h1 := hnow i (by omega) _ rfl
      have ha : (gs ++ [(s.b.t, k)])[i].1 ≤ s.b.t := by
        have hm : (gs ++ [(s.b.t, k)])[i] ∈ gs ++ [(s.b.t, k)] := List.getElem_mem _
        rcases List.mem_append.1 hm with h2 | h2
        · exact h.gt _ h2
        · rw [List.mem_singleton.1 h2]; exact Int.le_refl _
      have h3 : s.den * Bkt.seg ((gs ++ [(s.b.t, k)]).map (·.2)) i (gs.length + 1) ≤ s.den * (B + whole (l ++ [p]) (gs ++ [(s.b.t, k)])[i].1) + (s.b.t - max (gs ++ [(s.b.t, k)])[i].1 p.f) * s.num + (s.den - 1) := by
        have h4 : 0 ≤ s.den * (s.b.n - k) := Int.mul_nonneg (by omega) (by omega)
        rw [Int.mul_add] at h1
        omega
      have h5 := le_of_den m2 h3
      have e : (gs ++ [(s.b.t, k)])[gs.length].1 = s.b.t := by rw [List.getElem_append_right (Nat.le_refl _)]; simp
      rw [e, through_whole l p _ _ h.fs, part_now (by rw [h.den]; exact m2) ha hpf, h.num, h.den]
      omega

/-- Another rate. -/
theorem pinv_set {B T num den : Int} {s : St} {l : List Pc} {p : Pc} {gs : List (Int × Int)} (h : PInv B T s l p gs) (hm : Bkt.may num den = true) :
    PInv B T ⟨s.b, num, den⟩ (l ++ [p]) ⟨s.b.t, num, den⟩ gs := by
  obtain ⟨m0, m1, m2, m3⟩ := (Bkt.may_iff _ _).1 h.wf.may
  obtain ⟨n0, n1, n2, n3⟩ := (Bkt.may_iff _ _).1 hm
  have hpf : p.f ≤ s.b.t := h.fs p (by simp)
  refine ⟨⟨h.wf.b, hm⟩, h.hB, h.t0, rfl, rfl, fun q hq => ?_, fun q hq => ?_, h.gt, fun i hi => ?_, fun i j hij hj => ?_, h.full⟩
  · rcases List.mem_append.1 hq with h1 | h1
    · exact h.fs q h1
    · rw [List.mem_singleton.1 h1]; exact Int.le_refl _
  · rcases List.mem_append.1 hq with h1 | h1
    · exact h.ok q h1
    · rw [List.mem_singleton.1 h1]; exact ⟨n0, n2⟩
  · have h1 := h.now i hi
    have ha := h.gt _ (List.getElem_mem hi)
    have k2 := Bkt.kept_lo h.wf.b s.num s.den
    have k3 := Bkt.kept_hi h.wf.b (num := num) n2
    have h2 := le_of_den (x := Bkt.seg (gs.map (·.2)) i gs.length + s.b.n) m2 (show s.den * (Bkt.seg (gs.map (·.2)) i gs.length + s.b.n) ≤ s.den * (B + whole (l ++ [p]) gs[i].1) + (s.b.t - max gs[i].1 p.f) * s.num + (s.den - 1) by omega)
    rw [whole_snoc l p ⟨s.b.t, num, den⟩ _ h.fs, through_whole l p _ _ h.fs, part_now (by rw [h.den]; exact m2) ha hpf, h.num, h.den]
    show den * (Bkt.seg (gs.map (·.2)) i gs.length + s.b.n) + Bkt.kept s.b num den ≤ den * (B + (whole (l ++ [p]) gs[i].1 + ((s.b.t - max gs[i].1 p.f) * s.num + s.den - 1) / s.den)) + (s.b.t - max gs[i].1 s.b.t) * num + (den - 1)
    rw [show s.b.t - max gs[i].1 s.b.t = 0 by omega, Int.zero_mul]
    have h3 : den * (Bkt.seg (gs.map (·.2)) i gs.length + s.b.n) ≤ den * (B + (whole (l ++ [p]) gs[i].1 + ((s.b.t - max gs[i].1 p.f) * s.num + s.den - 1) / s.den)) := Int.mul_le_mul_of_nonneg_left (by omega) (by omega)
    omega
  · have h1 := h.good i j hij hj
    rw [through_snoc l p ⟨s.b.t, num, den⟩ _ _ (h.gt _ (List.getElem_mem hj))]
    exact h1
theorem pinv_start {B T : Int} (hB : Bkt.newOk B 0 = true) (hT : 0 ≤ T) : PInv B T (start B 0) [] ⟨0, 0, 1⟩ [] :=
  ⟨wf_start hB, rfl, hT, rfl, rfl, fun q hq => by simp at hq; subst hq; exact Int.le_refl _, fun q hq => by simp at hq; subst hq; exact ⟨Int.le_refl _, Int.le_refl _⟩, fun g hg => by simp at hg, fun i hi => by simp at hi, fun i j _ hj => by simp at hj, fun _ => rfl⟩
theorem pinv_later {B T T' : Int} {s : St} {l : List Pc} {p : Pc} {gs : List (Int × Int)} (h : PInv B T s l p gs) (hT : T ≤ T') : PInv B T' s l p gs :=
  ⟨h.wf, h.hB, Int.le_trans h.t0 hT, h.num, h.den, h.fs, h.ok, h.gt, h.now, h.good, h.full⟩

theorem pl_set {B T T' cw sm : Int} {s : St} {l : List Pc} {p : Pc} {gs : List (Int × Int)} (h : PInv B T s l p gs) (hT : T ≤ T') (t1 : T' ≤ 9007199254740991) (c0 : 1 ≤ cw) (c1 : cw ≤ 1099511627776) (s0 : 0 ≤ sm) (s1 : sm ≤ 9007199254740991) :
    setE s T' cw sm = 0 ∧ PInv B T' (set s T' cw sm) (l ++ [p]) ⟨T', 5 * cw, den4 sm⟩ gs := by
  have ht : s.b.t ≤ T' := by have := h.t0; omega
  have t0 : 0 ≤ s.b.t := h.wf.b.t0
  have hE : setE s T' cw sm = 0 := by
    unfold setE
    rw [if_pos (by rw [setOk_iff]; omega)]
    exact Bkt.fillE_ok t0 ht t1 h.wf.may
  refine ⟨hE, ?_⟩
  have h1 := pinv_set (pinv_come (pinv_later h hT) ht (Int.le_refl _) t1) (may_set (smooth := sm) c0 c1)
  have et : (come s T').b.t = T' := by
    show (Bkt.fillS s.b T' s.num s.den).t = T'
    rw [Bkt.fillS_of h.wf.may t0 ht t1, Bkt.fill_t]
  rw [et] at h1
  unfold set
  rw [if_pos hE]
  exact h1
theorem pl_send {B T T' k : Int} {s : St} {l : List Pc} {p : Pc} {gs : List (Int × Int)} (h : PInv B T s l p gs) (hT : T ≤ T') (t1 : T' ≤ 9007199254740991) (k0 : 1 ≤ k) (k1 : k ≤ 65535) :
    (sendE s T' k = 0 ∧ PInv B T' (send s T' k) l p (gs ++ [(T', k)])) ∨ (sendE s T' k = 213 ∧ send s T' k = s ∧ PInv B T' s l p gs) := by
  have ht : s.b.t ≤ T' := by have := h.t0; omega
  have t0 : 0 ≤ s.b.t := h.wf.b.t0
  have hc : comeE s T' = 0 := Bkt.fillE_ok t0 ht t1 h.wf.may
  have hn : (Sat.isN T' && isSize k) = true := by rw [Bool.and_eq_true, isSize_iff, Sat.isN_iff]; omega
  have hE : sendE s T' k = if Bkt.takeE (Bkt.fillS s.b T' s.num s.den) k = 0 then 0 else 213 := by unfold sendE; rw [if_pos hn, if_pos hc]
  have h1 := pinv_come (pinv_later h hT) ht (Int.le_refl _) t1
  have et : (come s T').b.t = T' := by
    show (Bkt.fillS s.b T' s.num s.den).t = T'
    rw [Bkt.fillS_of h.wf.may t0 ht t1, Bkt.fill_t]
  by_cases hk : k ≤ (come s T').b.n
  · have hk' : k ≤ (Bkt.fillS s.b T' s.num s.den).n := hk
    have hT0 : Bkt.takeE (Bkt.fillS s.b T' s.num s.den) k = 0 := by unfold Bkt.takeE; rw [if_neg (by omega), if_neg (by omega)]
    rw [if_pos hT0] at hE
    have h2 := pinv_take h1 k0 hk
    rw [et] at h2
    have e : send s T' k = { come s T' with b := { (come s T').b with n := (come s T').b.n - k } } := by
      unfold send
      rw [if_pos hE]
      unfold Bkt.takeS
      rw [if_pos hT0]
      rfl
    exact .inl ⟨hE, by rw [e, ← et]; rw [et]; exact h2⟩
  · have hk' : ¬ k ≤ (Bkt.fillS s.b T' s.num s.den).n := hk
    have hT0 : ¬ Bkt.takeE (Bkt.fillS s.b T' s.num s.den) k = 0 := by unfold Bkt.takeE; rw [if_neg (by omega), if_pos (by omega)]; omega
    rw [if_neg hT0] at hE
    exact .inr ⟨hE, by unfold send; rw [if_neg (by omega)], pinv_later h hT⟩
end Pac
end Go.Proofs.Ytniiemmgcjkphaa

/-
  Layer 14: PaceBound.
-/
import Derived.Test.YtniiemmgcjkphaaPacN
namespace Go.Proofs.Ytniiemmgcjkphaa
open Go.RowKit Go.Sort

theorem flat_at {α : Type} (enc : α → List Value) (m : Nat) (he : ∀ y, (enc y).length = m) : ∀ (l : List α) (k j : Nat) (hk : k < l.length) (_ : j < m), (l.flatMap enc)[k * m + j]? = (enc l[k])[j]?
  | [], k, j, hk, _ => absurd hk (by simp)
  | x :: t, 0, j, _, hj => by
    rw [List.flatMap_cons, Nat.zero_mul, Nat.zero_add, List.getElem?_append_left (by rw [he]; exact hj)]
    rfl
  | x :: t, k + 1, j, hk, hj => by
    have ih := flat_at enc m he t k j (by simpa using hk) hj
    rw [List.flatMap_cons, Nat.succ_mul, List.getElem?_append_right (by rw [he]; omega), he]
    rw [show k * m + m + j - m = k * m + j by omega, ih]
    rfl
theorem OwnE.cells {α : Type} {enc : α → List Value} {e : TypeId} {m : Nat} {w : World} {B : Nat} {v : Value} {l : List α} (h : OwnE enc e m w B v l) (he : ∀ y, (enc y).length = m) :
    ∃ A c, v = .slice A l.length c ∧ (0 < l.length → ∃ g, A = some ⟨g, 0, none⟩ ∧ g < w.heap.size ∧ ∀ k (hk : k < l.length) j, j < m → w.cell? ⟨g, k * m + j, none⟩ = (enc l[k])[j]?) := by
  by_cases hl : 0 < l.length
  · obtain ⟨g, cap, rfl, _, _⟩ := World.ownsRow.form h hl
    refine ⟨_, cap, rfl, fun _ => ⟨g, rfl, ((OwnE.low h) g rfl).2, fun k hk j hj => ?_⟩⟩
    have hlt : k * m + j < l.length * m := by
      have : (k + 1) * m ≤ l.length * m := Nat.mul_le_mul_right m hk
      rw [Nat.succ_mul] at this
      omega
    rw [World.ownsRow.cellAt h (k * m + j) hlt, flat_at enc m he l k j hk hj]
  · rcases h.2 with ⟨rfl, h0⟩ | ⟨g, cap, cur, rfl, _⟩
    · exact ⟨none, 0, by rw [h0], fun hh => absurd hh hl⟩
    · exact ⟨_, cap, rfl, fun hh => absurd hh hl⟩

theorem laterNq_ {B : Nat} {a b : World} (h : Below B a b) (n : Nat) : Below B a (b.drewN n) := ⟨h.os, h.tape, h.output, h.size, h.block⟩
def pcF (L : List Pac.Pc) (k j : Nat) : Int := match L[k]? with | some p => (if j = 0 then p.f else if j = 1 then p.num else p.den) | none => 0
theorem pcF_pcs (L : List Pac.Pc) : pcsOf (pcF L) L.length = L := by
  apply List.ext_getElem
  · simp [pcsOf]
  · intro k h1 h2
    simp [pcsOf, pcF, h2]
theorem own_rd {w : World} {B : Nat} {v : Value} {L : List Pac.Pc} (h : OwnE encP 115 3 w B v L) : ∃ A c, v = .slice A L.length c ∧ Rd w A 3 L.length (pcF L) := by
  obtain ⟨A, c, rfl, hc⟩ := h.cells (fun _ => rfl)
  refine ⟨A, c, rfl, fun h0 => ?_⟩
  obtain ⟨g, rfl, hg, hcell⟩ := hc h0
  refine ⟨g, 0, rfl, hg, fun k hk j hj => ?_⟩
  rw [Nat.zero_add, hcell k hk j hj]
  rcases (by omega : j = 0 ∨ j = 1 ∨ j = 2) with rfl | rfl | rfl <;> simp [encP, pcF, hk]
theorem own_gs {w : World} {B : Nat} {v : Value} {gs : List (Int × Int)} (h : OwnE encG 82 2 w B v gs) :
    ∃ A c, v = .slice A gs.length c ∧ (0 < gs.length → ∃ g, A = some ⟨g, 0, none⟩ ∧ g < w.heap.size ∧ ∀ k (hk : k < gs.length), w.cell? ⟨g, k * 2, none⟩ = some (.int .i64 gs[k].1) ∧ w.cell? ⟨g, k * 2 + 1, none⟩ = some (.int .i64 gs[k].2)) := by
  obtain ⟨A, c, rfl, hc⟩ := h.cells (fun _ => rfl)
  refine ⟨A, c, rfl, fun h0 => ?_⟩
  obtain ⟨g, rfl, hg, hcell⟩ := hc h0
  exact ⟨g, rfl, hg, fun k hk => ⟨hcell k hk 0 (by omega), hcell k hk 1 (by omega)⟩⟩
set_option maxHeartbeats 4000000 in
set_option maxRecDepth 100000 in
theorem pbound_any (burst : Int) (A : Option Addr) (n c : Nat) (f : Nat → Nat → Int) (w : World) (hn : n ≤ 9223372036854775807) (hr : Rd w A 4 n f) :
    Calls Try.prog 10 #[.int .i64 burst, .slice A n c] w fun e w' => e = .returned (.bool true) ∧ Below w.heap.size w w' := by
  have b0 := Int.emod_nonneg burst (show (1048576 : Int) ≠ 0 by omega)
  have b1 := Int.emod_lt_of_pos burst (show (0 : Int) < 1048576 by omega)
  have hB := Lib.hid (bring_same burst 1048576 (by omega) (by omega))
  generalize burst % 1048576 = r at *
  obtain ⟨BB, hBB⟩ : ∃ BB, 1 + r = BB := ⟨_, rfl⟩
  have hwb : IntKind.i64.wrap (1 + r) = BB := by rw [IntWalk.i64_in _ (by omega)]; exact hBB
  have hno : Bkt.newOk BB 0 = true := by unfold Bkt.newOk; rw [Bool.and_eq_true, decide_eq_true_eq, Sat.isN_iff]; omega
  have hB0 : 1 ≤ BB := by omega
  have hB1 : BB ≤ 1048576 := by omega
  clear b0 b1 hBB
  have hn' := Lib.hid hn
  clear hn
  replace hno := Lib.hid hno
  replace hr := Lib.hid hr
  go_enter Try.func10, Try.ntmps10
  go_wp2_with fail
  with_reducible refine (pworks_any w).mono ?_
  rintro e w1 ⟨rfl, hb⟩
  replace hb := Lib.hid hb
  go_wp2_with fail
  with_reducible refine (hB.out _).mono ?_
  rintro e w2 ⟨rfl, rfl⟩
  go_wp2_with fail
  with_reducible refine (pnew_ok BB 0 w1 hno.out).mono ?_
  rintro e w2 ⟨p, b, hp, hpb, rfl, hk, hb2⟩
  have hs1 := hb.out.size
  have hb3 := Lib.hid (later hb.out hb2)
  clear hb hb2
  have hPl := play_any BB p b A n c f w w2 hn'.out hr.out hb3.out (by omega) (by omega) hk hno.out
  clear hk
  go_wp2_with fail
  with_reducible refine hPl.mono ?_
  clear hPl
  rintro e w3 ⟨v1, v2, b', s, l, pc, gs, rfl, own1, own2, hbb, hk, hI, ⟨hl1, hl2⟩, hBd, ho⟩
  have hb4 := Lib.hid (only_old hb3.out ho (by rintro i (rfl | rfl) <;> omega) hb3.out.size)
  clear hb3 ho hk hbb
  obtain ⟨A1, c1, rfl, hr1⟩ := own_rd own1
  obtain ⟨A2, c2, rfl, hr2⟩ := own_gs own2
  have hts := tsum_bd f (min n 40)
  have hL : (l ++ [pc]).length ≤ 41 := by rw [List.length_append]; simp only [List.length_cons, List.length_nil]; omega
  have hok := hI.ok
  have hgt : ∀ g ∈ gs, g.1 ≤ 42949672960 := fun g hg => by
    have h1 := hI.gt g hg
    have h2 := hI.t0
    have h3 : ((min n 40 : Nat) : Int) ≤ 40 := by omega
    omega
  have hgood := hI.good
  have hgl : gs.length ≤ 40 := by omega
  have hTh := fun (W : World) (h : Rd W A1 3 (l ++ [pc]).length (pcF (l ++ [pc]))) (a b : Int) => through_any A1 (l ++ [pc]).length c1 (pcF (l ++ [pc])) a b gs W h hL (by rw [pcF_pcs]; exact hBd) (by rw [pcF_pcs]; exact hok)
  simp only [pcF_pcs] at hTh
  have hgn := hBd.gns
  have hTb := fun (a b : Int) (ha : 0 ≤ a) (hb : b ≤ 42949672960) => Pac.through_bd hBd hok hL ha hb
  generalize l ++ [pc] = L at *
  obtain ⟨G, hG⟩ : ∃ G, gs.length = G := ⟨_, rfl⟩
  rw [hG] at hgl ⊢
  clear hI hBd own1 own2 hok hl1 hl2 hts
  replace hr1 := Lib.hid hr1
  replace hr2 := Lib.hid hr2
  replace hgt := Lib.hid hgt
  replace hgood := Lib.hid hgood
  replace hTh := Lib.hid hTh
  replace hgn := Lib.hid hgn
  replace hTb := Lib.hid hTb
  replace hL := Lib.hid hL
  replace hG := Lib.hid hG
  go_wp2_with fail
  go_loopw [10] (fun i wr => ∃ (i' q : Nat), i = .int .i64 (i' : Int) ∧ i' ≤ G ∧ wr = w3.drewN q) (fun i _ => 60 - (intOf i).toNat)
  case atStart => exact ⟨0, 0, rfl, by omega, rfl⟩
  case round =>
    obtain ⟨i, q, rfl, hi, rfl⟩ := hrel
    by_cases hlt : i < G
    · have hlt' : (i : Int) < (G : Int) := by omega
      have hwi : IntKind.i64.wrap ((i : Int) + 1) = (i : Int) + 1 := IntWalk.i64_in _ (by omega)
      have hig : i < gs.length := by rw [hG.out]; exact hlt
      go_wp2_with fail
      go_loopw [11, 12] (fun x k wr => ∃ (k' q : Nat) (sm : Int), x = .int .i64 sm ∧ k = .int .i64 (k' : Int) ∧ i ≤ k' ∧ k' ≤ G ∧ sm = Bkt.seg (gs.map (·.2)) i k' ∧ 0 ≤ sm ∧ sm ≤ 3000 * ((k' : Int) - (i : Int)) ∧ wr = w3.drewN q) (fun _ k _ => 60 - (intOf k).toNat)
      case atStart => exact ⟨i, q, 0, rfl, rfl, by omega, by omega, by rw [Bkt.seg_self _ (Nat.le_refl _)], by omega, by omega, rfl⟩
      case round =>
        obtain ⟨k, q2, sm, rfl, rfl, hik, hk, hsm, hs0, hs1', rfl⟩ := hrel
        by_cases hkl : k < G
        · have hkl' : (k : Int) < (G : Int) := by omega
          have hwk : IntKind.i64.wrap ((k : Int) + 1) = (k : Int) + 1 := IntWalk.i64_in _ (by omega)
          have hkg : k < gs.length := by rw [hG.out]; exact hkl
          obtain ⟨g, rfl, hgs, hcell⟩ := hr2.out (by omega)
          obtain ⟨x0, x1⟩ := hcell i hig
          obtain ⟨y0, y1⟩ := hcell k hkg
          have hgd := hgood.out i k hik hkg
          have hsu := Bkt.seg_succ (gs.map (·.2)) hik (by simpa using hkg)
          simp only [List.getElem_map] at hsu
          rw [← hsm] at hsu
          obtain ⟨g0, g1, g2⟩ := hgn.out _ (List.getElem_mem hkg)
          obtain ⟨m0, m1, m2⟩ := hgn.out _ (List.getElem_mem hig)
          have hkt := hgt.out _ (List.getElem_mem hkg)
          have hth := fun W h => hTh.out W h gs[i].1 gs[k].1 m0 hkt
          have htb := hTb.out gs[i].1 gs[k].1 m0 hkt
          clear hcell
          obtain ⟨t0, t1⟩ := htb
          obtain ⟨TH, hTH⟩ : ∃ TH, Pac.through L gs[i].1 gs[k].1 = TH := ⟨_, rfl⟩
          simp only [hTH] at hgd hth t0 t1
          rw [hsu] at hgd
          clear hTH
          generalize gs[i].1 = a at *
          generalize gs[k].1 = bb at *
          generalize gs[k].2 = z at *
          obtain ⟨sm', hsm'⟩ : ∃ sm', sm + z = sm' := ⟨_, rfl⟩
          have hws : IntKind.i64.wrap (sm + z) = sm' := by rw [IntWalk.i64_in _ (by omega)]; exact hsm'
          have hwt : IntKind.i64.wrap (BB + TH) = BB + TH := IntWalk.i64_in _ (by omega)
          rw [hsm'] at hgd hsu
          have hdec : decide (BB + TH < sm') = false := decide_eq_false (by omega)
          have hdec2 : ¬ (BB + TH < sm') := by omega
          have hs2 : 0 ≤ sm' := by omega
          have hs3 : sm' ≤ 3000 * (((k + 1 : Nat) : Int) - (i : Int)) := by omega
          clear t0 t1 g0 g1 g2 m0 m1 m2 hkt hgd hsm' hs0 hs1' hB0 hB1
          replace hth := Lib.hid hth
          replace hsu := Lib.hid hsu
          replace hsm := Lib.hid hsm
          replace hs2 := Lib.hid hs2
          replace hs3 := Lib.hid hs3
          have hr1q := fun n => Lib.hid (hr1.out.later (laterDN (Below.refl w3.heap.size w3) n))
          go_wp2_with fail
          go_quiet ((go_at_call 43; with_reducible exact quiet_add (hth.out _ (hr1q _).out)))
          go_wp2_with fail
          refine ⟨⟨k + 1, q2 + nq, sm', rfl, by simp, by omega, by omega, hsu.out.symm, hs2.out, hs3.out, rfl⟩, ?_⟩
          simp only [intOf]
          omega
        · have hkl' : ¬ (k : Int) < (G : Int) := by omega
          go_wp2_with fail
          refine ⟨⟨i + 1, q2, by simp, by omega, rfl⟩, ?_⟩
          simp only [intOf]
          omega
    · have hlt' : ¬ (i : Int) < (G : Int) := by omega
      go_wp2
      go_ret
      exact ⟨rfl, laterNq_ hb4.out q⟩
end Go.Proofs.Ytniiemmgcjkphaa

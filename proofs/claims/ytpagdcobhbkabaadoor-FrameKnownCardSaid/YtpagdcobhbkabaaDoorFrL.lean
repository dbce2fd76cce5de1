/-
  Layer 5: what Bytes puts: the closure over Put.
-/
import Derived.Test.YtpagdcobhbkabaaDoorFrJ
import Derived.Test.YtpagdcobhbkabaaDoorOctS
namespace Go.Proofs.YtpagdcobhbkabaaDoor
open Go.RowKit Go.Sort Go.Shelf Go.Deep Go.WideShapes

theorem put_len8 (l : List Int) (n : Int) : (Oct.put l n).1.length ≤ l.length + 8 := by
  unfold Oct.put
  rcases Oct.putIn_cases l n (max (Oct.size n) 1) with ⟨e, _⟩ | ⟨e, _⟩ | ⟨e, _, _, _, h1, h2⟩
  · rw [e]; simp
  · rw [e]; simp
  · rw [e]
    simp only [List.length_append, Oct.enc_length]
    omega
/-- Numbers put one after the other. -/
def putL (l ns : List Int) : List Int := ns.foldl (fun l n => (Oct.put l n).1) l
theorem putL_append (l a b : List Int) : putL l (a ++ b) = putL (putL l a) b := by simp [putL]
theorem putL_len : ∀ (ns l : List Int), (putL l ns).length ≤ l.length + 8 * ns.length
  | [], l => by simp [putL]
  | n :: t, l => by
    have h1 := putL_len t (Oct.put l n).1
    have h2 := put_len8 l n
    simp only [putL, List.foldl_cons] at h1 ⊢
    simp only [List.length_cons]
    omega
theorem putL_good : ∀ (ns l : List Int), (∀ n ∈ ns, Frm.isN n = true) → putL l ns = l ++ Frm.encL ns
  | [], l, _ => by simp [putL, Frm.encL]
  | n :: t, l, h => by
    obtain ⟨h0, h1⟩ := (Frm.isN_iff n).1 (h n (by simp))
    have ih := putL_good t (l ++ Oct.enc n (Oct.size n).toNat) (fun x hx => h x (by simp [hx]))
    simp only [putL, List.foldl_cons] at ih ⊢
    rw [put_good h0 h1]
    simp only
    rw [ih]
    simp [Frm.encL]
/-- Bytes that do not lie in the block Bo. -/
def Os (w : World) (Bo : Nat) (v : Value) (l : List Int) : Prop := ∃ g A c, v = .slice A l.length c ∧ Sl w g A l.length c l ∧ g ≠ Bo
theorem OB.os {w : World} {B Bo : Nat} {v : Value} {l : List Int} (h : OB w B v l) (hB : Bo < B) : Os w Bo v l := by
  obtain ⟨g, A, c, e, h1, h2, _⟩ := h.open_
  exact ⟨g, A, c, e, h2, by omega⟩
theorem Os.only {w w' : World} {Bo : Nat} {v : Value} {l : List Int} (h : Os w Bo v l) (ho : Only (· = Bo) w w') : Os w' Bo v l := by
  obtain ⟨g, A, c, e, h1, h2⟩ := h
  exact ⟨g, A, c, e, h1.far ho.size (fun hl => ho.block g hl h2), h2⟩
theorem Sl.low {w : World} {q n c B : Nat} {A : Option Addr} {l : List Int} (h : Sl w q A n c l) {w' : World} (hb : Below w.heap.size w w') (_ : B ≤ w.heap.size) : Sl w' q A n c l := h.later hb
set_option maxRecDepth 100000 in
set_option maxHeartbeats 2000000 in
theorem put1_any (Wb : World) (hLb : Lim Wb) (Bo q off cap : Nat) (ns cur : List Int) (v : Value) (w : World) (hb : Below Wb.heap.size Wb w) (hBo : Wb.heap.size ≤ Bo) (hbx : Blk w Bo 27 #[v]) (hv : Os w Bo v cur)
    (hq : q < w.heap.size) (hqB : q ≠ Bo) (hn : ∀ k (hk : k < ns.length), w.cell? ⟨q, off + k, none⟩ = some (.int .i64 ns[k])) (h3 : ns.length ≤ 3) (hl : cur.length ≤ 9000) :
    Calls Tryd.prog 35 #[.slice (some ⟨q, off, none⟩) ns.length cap, .pointer (some ⟨Bo, 0, none⟩)] w fun e w' => (∃ r, e = .returned r) ∧ ∃ v', Blk w' Bo 27 #[v'] ∧ Os w' Bo v' (putL cur ns) ∧ Only (· = Bo) w w' := by
  obtain ⟨m, hm⟩ : ∃ m, ns.length = m := ⟨_, rfl⟩
  rw [hm] at h3 ⊢
  replace hb := Lib.hid hb
  replace hbx := Lib.hid hbx
  replace hv := Lib.hid hv
  replace hn := Lib.hid hn
  go_enter Tryd.func35, Tryd.ntmps35
  go_wp2
  go_loopw [7] (fun i wr => ∃ (k : Nat) (v' : Value), i = .int .i64 k ∧ k ≤ m ∧ Blk wr Bo 27 #[v'] ∧ Os wr Bo v' (putL cur (ns.take k)) ∧ Only (· = Bo) w wr) (fun i _ => m - (intOf i).toNat)
  case atStart => exact ⟨0, v, rfl, Nat.zero_le _, hbx.out, by simpa [putL] using hv.out, Only.refl _ _⟩
  case round =>
    obtain ⟨k, v1, rfl, hk, hbx1, hv1, ho1⟩ := hrel
    by_cases hkm : k < m
    · have hki : (k : Int) < (m : Int) := by omega
      have hwk : IntKind.i64.wrap ((k : Int) + 1) = (k : Int) + 1 := IntWalk.i64_in _ (by omega)
      obtain ⟨N, hN⟩ : ∃ N, ns[k]'(by omega) = N := ⟨_, rfl⟩
      have hN? : ns[k]? = some N := by rw [List.getElem?_eq_getElem (by omega), hN]
      have cN := (World.cell?_of_block (a := ⟨q, off + k, none⟩) (ho1.block q hq hqB)).trans (hn.out k (by omega))
      rw [hN] at cN
      have hb1 := only_old hb.out ho1 (by rintro i rfl; exact hBo) hb.out.size
      have hL1 := hLb.later hb1
      obtain ⟨g, A, c, rfl, hsl, hg⟩ := hv1
      have hlen := putL_len (ns.take k) cur
      have htk : (ns.take k).length ≤ 3 := by simp; omega
      have hP := put_any A (putL cur (ns.take k)).length c g _ N wr hL1 hsl (by omega)
      have hstep : (Oct.put (putL cur (ns.take k)) N).1 = putL cur (ns.take (k + 1)) := by
        rw [List.take_add_one, hN?, putL_append]
        simp [putL]
      have x0 := hbx1.cell 0
      have xf := hbx1.frozen 0
      simp at x0
      obtain ⟨M, hM⟩ : ∃ M, (putL cur (ns.take k)).length = M := ⟨_, rfl⟩
      rw [hM] at hP x0 hbx1
      rw [hstep] at hP
      have hwB := hbx1.lt
      replace hsl := Lib.hid hsl
      replace hbx1 := Lib.hid hbx1
      replace hP := Lib.hid hP
      replace ho1 := Lib.hid ho1
      replace hb1 := Lib.hid hb1
      replace hL1 := Lib.hid hL1
      replace hstep := Lib.hid hstep
      replace hlen := Lib.hid hlen
      clear hN? hN htk
      go_wp2_with fail
      with_reducible refine hP.out.mono ?_
      rintro e w2 ⟨v2, rfl, hob, hb2⟩
      have hbx2 := hbx1.out.later hb2
      have hos := hob.os (Bo := Bo) hwB
      have z0 := hbx2.cell 0
      have zf := hbx2.frozen 0
      simp at z0
      have ho2 := (ho1.out.trans (Only.of_below hb2))
      have hoS := Only.set (F := (· = Bo)) (p := ⟨Bo, 0, none⟩) (Only.refl _ w2) rfl v2
      have hbxS := hbx2.set_ 0 v2
      obtain ⟨g2, A2, c2, rfl, hs2, hg2⟩ := hos
      replace hob := Lib.hid hob
      replace hb2 := Lib.hid hb2
      replace hbx2 := Lib.hid hbx2
      replace ho2 := Lib.hid ho2
      replace hoS := Lib.hid hoS
      replace hbxS := Lib.hid hbxS
      replace hs2 := Lib.hid hs2
      clear hP hbx1 x0 xf hsl
      go_wp2_with fail
      go_roundw
      case rel => exact ⟨k + 1, _, by simp, by omega, hbxS.out, Os.only ⟨g2, A2, c2, rfl, hs2.out, hg2⟩ hoS.out, ho2.out.trans hoS.out⟩
      case measure => simp [intOf]; omega
    · obtain rfl : k = m := by omega
      go_wp2_with fail
      go_end0
      rw [List.take_of_length_le (by omega)] at hv1
      exact ⟨⟨_, rfl⟩, _, hbx1, hv1, ho1⟩
end Go.Proofs.YtpagdcobhbkabaaDoor

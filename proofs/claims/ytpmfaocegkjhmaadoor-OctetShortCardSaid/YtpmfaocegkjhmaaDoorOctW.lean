/-
  Layer 2: OctetShort: the walk.
-/
import Derived.Test.YtpmfaocegkjhmaaDoorOctV
import Derived.Test.YtpmfaocegkjhmaaDoorOctS
import Derived.BigQuiet
namespace Go.Proofs.YtpmfaocegkjhmaaDoor
open Go.RowKit Go.Sort Go.Shelf Go.Deep Go.WideShapes

theorem sz_pair (x y z : Int) : ∃ (NN : Int) (S T : Nat), Oct.nOf x y = NN ∧ Oct.sOf (Oct.nOf x y) z = (S : Int) ∧ Oct.size NN = (T : Int) ∧ Oct.Fits NN S ∧ Oct.Fits NN T ∧ S ≤ 8 ∧ T ≤ 8 ∧ 0 ≤ NN ∧ NN ≤ 9007199254740991 := by
  have h := Oct.sOf_sz x y z
  obtain ⟨h0, h1⟩ := Oct.nOf_range x y
  obtain ⟨hf, hp, h8⟩ := Oct.fits_size h0 h1
  have := h.1
  exact ⟨_, (Oct.sOf (Oct.nOf x y) z).toNat, (Oct.size (Oct.nOf x y)).toNat, rfl, by omega, by omega, h.2, hf, by omega, by omega, h0, h1⟩
theorem put_nat {n : Int} {T : Nat} (hs : Oct.size n = (T : Int)) (h0 : 0 ≤ n) (h1 : n ≤ 9007199254740991) (l : List Int) : Oct.put l n = (l ++ Oct.enc n T, 0) := by
  rw [put_good h0 h1 l, hs, Int.toNat_natCast]

theorem Sl.at {w : World} {q n c : Nat} {A : Option Addr} {l : List Int} (h : Sl w q A n c l) {k : Nat} {x : Int} (hx : l[k]? = some x) : ∃ off, A = some ⟨q, off, none⟩ ∧ w.cell? ⟨q, off + k, none⟩ = some (.int .u8 x) := by
  obtain ⟨h1, h2, h3, ⟨rfl, h4, _⟩ | ⟨off, rfl, _, h5⟩⟩ := h
  · have := (List.getElem?_eq_some_iff.1 hx).1
    omega
  · obtain ⟨hk, e⟩ := List.getElem?_eq_some_iff.1 hx
    exact ⟨off, rfl, by rw [h5 k hk, e]⟩

set_option maxHeartbeats 4000000 in
set_option maxRecDepth 100000 in
theorem short_any (x0 y0 z0 x1 y1 z1 : Int) (w : World) (hL : Lim w) :
    Calls Tryd.prog 4 #[.agg #[.int .i64 x0, .int .i64 y0, .int .i64 z0], .agg #[.int .i64 x1, .int .i64 y1, .int .i64 z1]] w fun e w' => e = .returned (.bool true) ∧ Below w.heap.size w w' := by
  obtain ⟨n, S, T, hN, hS, hT, hfS, hfT, hS8, hT8, n0, n1⟩ := sz_pair x0 y0 z0
  obtain ⟨m, S', U, hM, hS', hU, hfS', hfU, hS8', hU8, m0, m1⟩ := sz_pair x1 y1 z1
  have hMa := fun W h => made_any x0 y0 z0 W h
  have hMb := fun W h => made_any x1 y1 z1 W h
  rw [hS, hN] at hMa
  rw [hS', hM] at hMb
  have hP1 := put_nat hT n0 n1 []
  rw [List.nil_append] at hP1
  have hP2 := put_nat hU m0 m1 (Oct.enc n T)
  have hP3 := Oct.putIn_fits (Oct.enc n T) hfS
  have hs1 : Oct.strict (Oct.enc n T ++ Oct.enc m U) = true := by
    have h := Oct.strict_two n0 n1 hfU
    rw [hT, Int.toNat_natCast] at h
    rw [h]; simp [hU]
  have hs2 : Oct.strict (Oct.enc n T ++ Oct.enc n S) = ((S : Int) == (T : Int)) := by
    have h := Oct.strict_two n0 n1 hfS
    rw [hT, Int.toNat_natCast] at h
    rw [h]; rfl
  have hlt := Oct.size_lt n0 n1 m0 m1
  rw [hT, hU] at hlt
  have hSz := fun W h => size_any n W h
  rw [hT] at hSz
  have hb1 : Oct.Bys (Oct.enc n T) := Oct.enc_bys hfT
  have hb2 : Oct.Bys (Oct.enc m U) := Oct.enc_bys hfU
  have hb3 : Oct.Bys (Oct.enc n S) := Oct.enc_bys hfS
  have hl1 := Oct.enc_length n T
  have hl2 := Oct.enc_length m U
  have hl3 := Oct.enc_length n S
  have hlex := fun (e : T = U) => Oct.enc_lex hfT (show Oct.Fits m T from e ▸ hfU)
  have hinj := fun (e : T = U) => Oct.enc_inj hfT (show Oct.Fits m T from e ▸ hfU)
  clear hN hS hT hfS hfT hM hS' hU hfS' hfU n0 n1 m0 m1 hS8'
  have h0 := hL.lt
  have hxa := (Blk.new w 34 #[.int .i64 x0, .int .i64 y0, .int .i64 z0]).alloc (.cells #[.int .i64 x1, .int .i64 y1, .int .i64 z1] 34)
  have hxb := Blk.new2 w (.cells #[.int .i64 x0, .int .i64 y0, .int .i64 z0] 34) 34 #[.int .i64 x1, .int .i64 y1, .int .i64 z1]
  have hbw := laterA (laterA (Below.refl w.heap.size w) (.cells #[.int .i64 x0, .int .i64 y0, .int .i64 z0] 34)) (.cells #[.int .i64 x1, .int .i64 y1, .int .i64 z1] 34)
  replace hxa := Lib.hid hxa
  replace hxb := Lib.hid hxb
  replace hbw := Lib.hid hbw
  replace hL := Lib.hid hL
  replace hMa := Lib.hid hMa
  replace hMb := Lib.hid hMb
  replace hP1 := Lib.hid hP1
  replace hP2 := Lib.hid hP2
  replace hP3 := Lib.hid hP3
  replace hs1 := Lib.hid hs1
  replace hs2 := Lib.hid hs2
  replace hlt := Lib.hid hlt
  replace hSz := Lib.hid hSz
  replace hb1 := Lib.hid hb1
  replace hb2 := Lib.hid hb2
  replace hb3 := Lib.hid hb3
  replace hlex := Lib.hid hlex
  replace hinj := Lib.hid hinj
  go_enter Tryd.func4, Tryd.ntmps4
  go_wp2_with fail
  with_reducible refine (hMa.out _ (hL.out.later hbw.out)).mono ?_
  rintro e w1 ⟨rfl, hb⟩
  have hx1 := hxb.out.later hb
  have c0 := hx1.cell 0
  have c1 := hx1.cell 1
  have c2 := hx1.cell 2
  simp at c0 c1 c2
  replace hbw := Lib.hid (later hbw.out hb)
  clear hb hx1 hxa hxb hMa
  go_wp2_with fail
  with_reducible refine (hMb.out _ (hL.out.later hbw.out)).mono ?_
  rintro e w2 ⟨rfl, hb⟩
  replace hbw := Lib.hid (later hbw.out hb)
  clear hb c0 c1 c2 hMb
  have hP := put_any none 0 0 0 [] n w2 (hL.out.later hbw.out) (Sl.nil _ 0) (by omega)
  rw [hP1.out] at hP
  go_wp2_with fail
  with_reducible refine hP.mono ?_
  clear hP
  rintro e w3 ⟨v, rfl, ho, hb⟩
  obtain ⟨ga, Aa, ca, rfl, _, hsa, hjunk⟩ := ho.open_
  clear hjunk ho
  rw [hl1] at hsa ⊢
  replace hbw := Lib.hid (later hbw.out hb)
  clear hb
  have hP := put_any Aa T ca ga _ m w3 (hL.out.later hbw.out) hsa (by omega)
  rw [hP2.out] at hP
  replace hsa := Lib.hid hsa
  go_wp2_with fail
  with_reducible refine hP.mono ?_
  clear hP
  rintro e w4 ⟨v, rfl, ho, hb⟩
  obtain ⟨gb, Ab, cb, rfl, _, hsb, hjunk⟩ := ho.open_
  clear hjunk ho
  have hl12 : (Oct.enc n T ++ Oct.enc m U).length = T + U := by rw [List.length_append, hl1, hl2]
  rw [hl12] at hsb ⊢
  replace hsa := Lib.hid (hsa.out.later hb)
  replace hbw := Lib.hid (later hbw.out hb)
  clear hb
  have hP := putin_any Aa T ca ga _ n S w4 (hL.out.later hbw.out) hsa.out (by omega)
  rw [hP3.out] at hP
  replace hsb := Lib.hid hsb
  go_wp2_with fail
  with_reducible refine hP.mono ?_
  clear hP
  rintro e w5 ⟨v, rfl, ho, hb⟩
  obtain ⟨gc, Ac, cc, rfl, _, hsc, hjunk⟩ := ho.open_
  clear hjunk ho
  have hl13 : (Oct.enc n T ++ Oct.enc n S).length = T + S := by rw [List.length_append, hl1, hl3]
  rw [hl13] at hsc ⊢
  replace hsa := Lib.hid (hsa.out.later hb)
  replace hsb := Lib.hid (hsb.out.later hb)
  replace hbw := Lib.hid (later hbw.out hb)
  clear hb
  have hSt := strict_any Ab _ cb gb _ w5 (hL.out.later hbw.out) hsb.out (by omega) (hb1.out.app hb2.out)
  rw [hs1.out] at hSt
  replace hsc := Lib.hid hsc
  obtain ⟨TU, hTU⟩ : ∃ TU, T + U = TU := ⟨_, rfl⟩
  obtain ⟨TS, hTS⟩ : ∃ TS, T + S = TS := ⟨_, rfl⟩
  rw [hTU] at hsb hSt ⊢
  rw [hTS] at hsc ⊢
  replace hTU := Lib.hid hTU
  replace hTS := Lib.hid hTS
  go_wp2_with fail
  with_reducible refine hSt.mono ?_
  clear hSt
  rintro e w6 ⟨rfl, hb⟩
  replace hsa := Lib.hid (hsa.out.later hb)
  replace hsb := Lib.hid (hsb.out.later hb)
  replace hsc := Lib.hid (hsc.out.later hb)
  replace hbw := Lib.hid (later hbw.out hb)
  clear hb
  have hSt := strict_any Ac _ cc gc _ w6 (hL.out.later hbw.out) hsc.out (by have := hTS.out; omega) (hb1.out.app hb3.out)
  rw [hs2.out] at hSt
  go_wp2_with fail
  with_reducible refine hSt.mono ?_
  clear hSt
  rintro e w7 ⟨rfl, hb⟩
  replace hsa := Lib.hid (hsa.out.later hb)
  replace hsb := Lib.hid (hsb.out.later hb)
  replace hbw := Lib.hid (later hbw.out hb)
  clear hb hsc
  go_wp2_with fail
  with_reducible refine (hSz.out _ (hL.out.later hbw.out)).mono ?_
  rintro e w8 ⟨rfl, hb⟩
  replace hsa := Lib.hid (hsa.out.later hb)
  replace hsb := Lib.hid (hsb.out.later hb)
  replace hbw := Lib.hid (later hbw.out hb)
  clear hb hSz
  have hne : (((S : Int) == (T : Int)) != ((S : Int) == (T : Int))) = false := by
    generalize ((S : Int) == (T : Int)) = bb
    cases bb <;> rfl
  have hnl : ¬ (TU : Int) < (T : Int) := by have := hTU.out; omega
  obtain ⟨A4, hsl4, hsd⟩ := slice_from hsb.out (K := T) (by have := hTU.out; omega)
  have e4 : (Oct.enc n T ++ Oct.enc m U).drop T = Oct.enc m U := List.drop_left' hl1
  have e5 : TU - T = U := by have := hTU.out; omega
  rw [e4, e5] at hsd
  rw [e5] at hsl4
  clear e4 e5 hsb
  replace hsd := Lib.hid hsd
  have hWk := works_any w8 (hL.out.later hbw.out)
  by_cases hTe : T = U
  · have hei : (T : Int) = (U : Int) := by omega
    have hE1 := hlex.out hTe
    have hE2 := hinj.out hTe
    obtain rfl := hTe
    clear hlex hinj hei
    replace hE1 := Lib.hid hE1
    replace hE2 := Lib.hid hE2
    replace hWk := Lib.hid hWk
    go_wp2_with fail
    go_loopw [15] (fun i wr => ∃ k : Nat, i = .int .i64 (k : Int) ∧ k ≤ T ∧ (Oct.enc n T).take k = (Oct.enc m T).take k ∧ Lim wr ∧ Sl wr ga Aa T ca (Oct.enc n T) ∧ Sl wr gb A4 T (cb - T) (Oct.enc m T) ∧ Below w.heap.size w wr) (fun i _ => 9 - (intOf i).toNat)
    case atStart => exact ⟨0, rfl, by omega, by simp, hL.out.later hbw.out, hsa.out, hsd.out, hbw.out⟩
    case round =>
      clear hsa hsd hbw hWk
      obtain ⟨k, rfl, hkT, htk, hLw, hsa, hsd, hbw⟩ := hrel
      by_cases hkl : k < T
      · have hkl' : (k : Int) < (T : Int) := by omega
        have hwi : IntKind.i64.wrap ((k : Int) + 1) = (k : Int) + 1 := IntWalk.i64_in _ (by omega)
        obtain ⟨xa, hxa⟩ : ∃ x, (Oct.enc n T)[k]? = some x := ⟨_, List.getElem?_eq_getElem (by omega)⟩
        obtain ⟨xb, hxb⟩ : ∃ x, (Oct.enc m T)[k]? = some x := ⟨_, List.getElem?_eq_getElem (by omega)⟩
        have ca1 := hsa.at hxa
        have cb1 := hsd.at hxb
        obtain ⟨oa, rfl, ca2⟩ := ca1
        obtain ⟨ob, rfl, cb2⟩ := cb1
        by_cases hxx : xa = xb
        · subst hxx
          have htk2 : (Oct.enc n T).take (k + 1) = (Oct.enc m T).take (k + 1) := by rw [List.take_add_one, List.take_add_one, hxa, hxb, htk]
          have hxx2 : (xa != xa) = false := by simp
          replace htk2 := Lib.hid htk2
          replace htk := Lib.hid htk
          replace hsa := Lib.hid hsa
          replace hsd := Lib.hid hsd
          replace hbw := Lib.hid hbw
          replace hLw := Lib.hid hLw
          replace hxa := Lib.hid hxa
          replace hxb := Lib.hid hxb
          go_wp2_with fail
          go_quiet (fail)
          go_wp2_with fail
          refine ⟨⟨k + 1, by simp, by omega, htk2.out, hLw.out.drewN _, hsa.out.later (laterDN (Below.refl _ _) _), hsd.out.later (laterDN (Below.refl _ _) _), laterNq hbw.out _⟩, ?_⟩
          simp only [intOf]
          omega
        · have hord := hE1.out k htk xa xb hxa hxb hxx
          have hxx2 : (xa != xb) = true := by simpa using hxx
          replace htk := Lib.hid htk
          replace hsa := Lib.hid hsa
          replace hsd := Lib.hid hsd
          replace hbw := Lib.hid hbw
          replace hLw := Lib.hid hLw
          replace hxa := Lib.hid hxa
          replace hxb := Lib.hid hxb
          go_wp2_with fail
          go_quiet (fail)
          by_cases hxl : xa < xb
          · have hnm := hord.1 hxl
            have hd1 := decide_eq_true hxl
            have hd2 := decide_eq_true hnm
            replace hord := Lib.hid hord
            go_wp2_with fail
            have d0 := fun d os => cell_regrown (w := wr.drewN nq) ca2 d os
            have d1 := fun d os => cell_regrown (w := wr.drewN nq) cb2 d os
            have hLq := Lib.hid (Lim.drewN hLw.out nq)
            have hbn := Lib.hid (laterNq hbw.out nq)
            refine wp_region_quiet_below (by kernel_rfl) (by kernel_rfl) ?_
            repeat (go_big_quiet_step ((first | (go_at_call 19; exact Calls.regrown_of (works_any _ (hLq.out.later (below_regrown _ _ _)))))))
            refine wpQuiet_nil ?_
            intro wq hw'
            obtain ⟨⟨dq, osq⟩, hw''⟩ := hw'
            have hbq := regrown_below hw''
            clear hw'' dq osq
            clear d0 d1
            go_wp2_with fail
            go_ret
            exact ⟨rfl, old_later2 hbn.out hbq hbn.out.size⟩
          · have hnm : ¬ n < m := fun h => hxl (hord.2 h)
            have hd1 := decide_eq_false hxl
            have hd2 := decide_eq_false hnm
            replace hord := Lib.hid hord
            go_wp2_with fail
            have d0 := fun d os => cell_regrown (w := wr.drewN nq) ca2 d os
            have d1 := fun d os => cell_regrown (w := wr.drewN nq) cb2 d os
            have hLq := Lib.hid (Lim.drewN hLw.out nq)
            have hbn := Lib.hid (laterNq hbw.out nq)
            refine wp_region_quiet_below (by kernel_rfl) (by kernel_rfl) ?_
            repeat (go_big_quiet_step ((first | (go_at_call 19; exact Calls.regrown_of (works_any _ (hLq.out.later (below_regrown _ _ _)))))))
            refine wpQuiet_nil ?_
            intro wq hw'
            obtain ⟨⟨dq, osq⟩, hw''⟩ := hw'
            have hbq := regrown_below hw''
            clear hw'' dq osq
            clear d0 d1
            go_wp2_with fail
            go_ret
            exact ⟨rfl, old_later2 hbn.out hbq hbn.out.size⟩
      · have hkl' : ¬ (k : Int) < (T : Int) := by omega
        have hkT' : k = T := by omega
        subst hkT'
        have hnm : n = m := hE2.out (by
          have h := htk
          rwa [List.take_of_length_le (by omega), List.take_of_length_le (by omega)] at h)
        subst hnm
        have hWk := works_any wr hLw
        replace hbw := Lib.hid hbw
        replace hWk := Lib.hid hWk
        replace hsa := Lib.hid hsa
        replace hsd := Lib.hid hsd
        go_wp2_with fail
        with_reducible refine hWk.out.mono ?_
        rintro e w9 ⟨rfl, hb⟩
        go_wp2
        go_ret
        exact ⟨rfl, old_later2 hbw.out hb hbw.out.size⟩
  · have hei : ¬ (T : Int) = (U : Int) := by omega
    have hei2 : ((T : Int) != (U : Int)) = true := by simpa using hei
    have hord := hlt.out (by simpa using hei)
    replace hlt := trivial
    by_cases hTl : (T : Int) < (U : Int)
    · have hnm := hord.1 hTl
      replace hord := Lib.hid hord
      replace hWk := Lib.hid hWk
      go_wp2_with fail
      with_reducible refine hWk.out.mono ?_
      rintro e w9 ⟨rfl, hb⟩
      go_wp2
      go_ret
      exact ⟨rfl, old_later2 hbw.out hb hbw.out.size⟩
    · have hnm : ¬ n < m := fun h => hTl (hord.2 h)
      replace hord := Lib.hid hord
      replace hWk := Lib.hid hWk
      go_wp2_with fail
      with_reducible refine hWk.out.mono ?_
      rintro e w9 ⟨rfl, hb⟩
      go_wp2
      go_ret
      exact ⟨rfl, old_later2 hbw.out hb hbw.out.size⟩
end Go.Proofs.YtpmfaocegkjhmaaDoor

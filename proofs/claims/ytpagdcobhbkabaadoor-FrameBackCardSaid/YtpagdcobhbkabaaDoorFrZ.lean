/-
  Layer 5: FrameBack.
-/
import Derived.Test.YtpagdcobhbkabaaDoorFrS
import Derived.Test.YtpagdcobhbkabaaDoorFrW
import Derived.Test.YtpagdcobhbkabaaDoorRead
import Derived.Test.YtpagdcobhbkabaaDoorPostC
import Derived.Lib.SmallJoins
namespace Go.Proofs.YtpagdcobhbkabaaDoor
open Go.RowKit Go.Sort Go.Shelf Go.Deep Go.WideShapes Go.ChangeShapes Go.ChangeAt

theorem encL_bys2 : ∀ (ns : List Int), (∀ n ∈ ns, Frm.isN n = true) → Oct.Bys (Frm.encL ns)
  | [], _ => fun x hx => by simp [Frm.encL] at hx
  | n :: t, h => fun x hx => by
    obtain ⟨h0, h1⟩ := (Frm.isN_iff n).1 (h n (by simp))
    simp only [Frm.encL, List.mem_append] at hx
    rcases hx with hx | hx
    · exact Oct.enc_bys (Oct.fits_size h0 h1).1 x hx
    · exact encL_bys2 t (fun y hy => h y (by simp [hy])) x hx
theorem bytes_bys2 {a : Frm.Ak} (h : Frm.chk a = true) : Oct.Bys (Frm.bytes a).1 := by
  unfold Frm.bytes
  rw [if_pos h]
  intro x hx
  simp only [List.mem_cons] at hx
  rcases hx with rfl | hx
  · split <;> omega
  · exact encL_bys2 _ (nums_isN h) x hx
theorem bytes_len {a : Frm.Ak} (h : Frm.chk a = true) : 0 < (Frm.bytes a).1.length ∧ (Frm.bytes a).1.length ≤ 5000 := by
  constructor
  · unfold Frm.bytes
    rw [if_pos h]
    simp
  · obtain ⟨⟨p, t, hp, ht⟩, _⟩ := Frm.chk_parts h
    rw [← bytes_putL h a.rs.length rfl]
    have h1 := putL_len (if a.mkd then [a.e0, a.e1, a.e2] else []) (putL (putL [if a.mkd then 3 else 2] [(a.rs.headD (0, 0)).2, a.d, (a.rs.length : Int) - 1]) (seqW true (gpn a.rs a.rs.length)))
    have h2 := putL_len (seqW true (gpn a.rs a.rs.length)) (putL [if a.mkd then 3 else 2] [(a.rs.headD (0, 0)).2, a.d, (a.rs.length : Int) - 1])
    have h3 := putL_len [(a.rs.headD (0, 0)).2, a.d, (a.rs.length : Int) - 1] [if a.mkd then 3 else 2]
    have h4 := seqW_len true (gpn a.rs a.rs.length)
    rw [gpn_length] at h4
    have h5 : (if a.mkd then [a.e0, a.e1, a.e2] else []).length ≤ 3 := by split <;> simp
    have h6 : a.rs.length ≤ 256 := by rw [hp]; simp; omega
    simp only [List.length_cons, List.length_nil] at h3
    omega
theorem ak_len {a : Frm.Ak} (h : Frm.chk a = true) {w : World} {A : Option Addr} {n c : Nat} (hr : Rg w A n c a.rs) : n ≤ 256 ∧ 0 < n := by
  have := hr.1
  obtain ⟨⟨p, t, hp, ht⟩, _⟩ := Frm.chk_parts h
  rw [hp] at this
  simp at this
  omega
theorem rd_ints2 {H : Type} {enc : TypeId × Value → H} {P : Program} {w : World} {t e : TypeId} {v : Value} {fuel : Nat} {x : DataW H × List MemPlace} (ht : P.underlying t = some (.slice e)) (he : P.underlying e = some (.int .i64)) (hc : P.cellsOf e = 1)
    (hf : DataW.trod enc P w 0 (fun _ => true) true fuel t [v] = some x) :
    ∃ (A : Option Addr) (n c : Nat) (f : Nat → Nat → Int), v = .slice A n c ∧ n ≤ 9223372036854775807 ∧ Rd w A 1 n f := by
  rcases open_ints ht he hc hf with ⟨hcs, hx⟩ | ⟨a, len, cap, zs, hcs, _, hl, hm, hz, hx, hcell, hwz⟩
  · simp at hcs
    subst hcs
    exact ⟨none, 0, 0, fun _ _ => 0, rfl, by omega, fun h => absurd h (by omega)⟩
  · simp at hcs
    subst hcs
    simp at hz
    refine ⟨some a, len, cap, fun k _ => zs.getD k 0, rfl, by unfold maxLen at hm; omega, fun hn => ?_⟩
    obtain ⟨b, off, rfl, hj⟩ := ints_at hcell (by omega)
    refine ⟨b, off, rfl, block_lt_of_cell (hj 0 (by omega)), fun k hk j hj' => ?_⟩
    have hj0 : j = 0 := by omega
    subst hj0
    have := hj k (by omega)
    rw [show off + (k * 1 + 0) = off + k by omega]
    exact this
theorem rd_pairs2 {H : Type} {enc : TypeId × Value → H} {P : Program} {w : World} {t e i : TypeId} {v : Value} {fuel : Nat} {x : DataW H × List MemPlace} (ht : P.underlying t = some (.slice e)) (he : P.underlying e = some (.array 2 i)) (hi : P.underlying i = some (.int .i64)) (hc : P.cellsOf e = 2) (hci : P.cellsOf i = 1)
    (hf : DataW.trod enc P w 0 (fun _ => true) true fuel t [v] = some x) :
    ∃ (A : Option Addr) (n c : Nat) (f : Nat → Nat → Int), v = .slice A n c ∧ n ≤ 9223372036854775807 ∧ Rd w A 2 n f := by
  rcases Go.Deep.open_slice ht hf with ⟨hcs, hx⟩ | ⟨a, len, cap, m, n', D, Pl, hcs, hb, hl, hm, hmm, hx, hat0⟩
  · simp at hcs
    subst hcs
    exact ⟨none, 0, 0, fun _ _ => 0, rfl, by omega, fun h => absurd h (by omega)⟩
  · simp at hcs
    subst hcs
    simp at hmm
    have hat : ∀ k, k < len → ∀ j, j < 2 → ∃ x : Int, w.cell? (a.add (k * 2 + j)) = some (.int .i64 x) := by
      intro k hk j hj
      obtain ⟨cs', hcc, ht'⟩ := hat0 k (by omega)
      rw [hc] at hcc
      obtain ⟨xs, m', _, _, hcl, hxl, hg⟩ := DataW.trod_array he ht'
      rw [hc] at hcl
      obtain ⟨_, _, hcat⟩ := World.cells?_some hcc
      have h1 := hg j hj
      rw [hci, Nat.mul_one] at h1
      have hone' : (cs'.drop j).take 1 = [cs'[j]'(by omega)] := by
        rw [List.drop_eq_getElem_cons (by omega)]
        rfl
      rw [hone', List.getElem?_eq_getElem (by omega)] at h1
      obtain ⟨x, e0, _, _⟩ := DataW.trod_int hi h1
      simp at e0
      refine ⟨x, ?_⟩
      rw [← Go.Deep.add_add, hcat j hj, List.getElem?_eq_getElem (by omega), e0]
    by_cases hn : 0 < len
    · obtain ⟨x0, hc0⟩ := hat 0 hn 0 (by omega)
      obtain ⟨b, off, spot⟩ := a
      have hspot : spot = none := by
        have := World.cell?_spot hc0
        simpa [Addr.add] using this
      subst hspot
      refine ⟨_, len, cap, fun k j => if k < len ∧ j < 2 then numAt w b (off + (k * 2 + j)) else 0, rfl, by unfold maxLen at hm; omega, fun _ => ⟨b, off, rfl, ?_, fun k hk j hj => ?_⟩⟩
      · rw [Go.WideShapes.add_plain] at hc0
        exact block_lt_of_cell hc0
      · obtain ⟨x, hx⟩ := hat k hk j hj
        rw [Go.WideShapes.add_plain] at hx
        show w.cell? ⟨b, off + (k * 2 + j), none⟩ = some (.int .i64 (if k < len ∧ j < 2 then numAt w b (off + (k * 2 + j)) else 0))
        rw [if_pos ⟨hk, hj⟩, numAt_of hx]
        exact hx
    · exact ⟨_, len, cap, fun _ _ => 0, rfl, by unfold maxLen at hm; omega, fun h => absurd h hn⟩
set_option maxRecDepth 100000 in
theorem open_seed {H : Type} {enc : TypeId × Value → H} {w : World} {r : Reach} {b0 : Nat} {v : Value} {d : DataW H} {p : List MemPlace}
    (hv : Value.okWide Tryd.prog w r b0 52 v) (h : DataW.Trod enc Tryd.prog w 0 (fun _ => true) true 52 v d p) :
    ∃ (hi dl : Int) (A : Option Addr) (n c : Nat) (f : Nat → Nat → Int) (A' : Option Addr) (m c' : Nat) (g : Nat → Nat → Int), v = .agg #[.int .i64 hi, .int .i64 dl, .slice A n c, .slice A' m c'] ∧ n ≤ 9223372036854775807 ∧ Rd w A 2 n f ∧ m ≤ 9223372036854775807 ∧ Rd w A' 1 m g := by
  obtain ⟨v0, v1, v2, v3, y0, y1, y2, y3, n, rfl, _, _, g0, g1, g2, g3⟩ := Go.Joins.open_agg4 Tryd.underlying52 (by kernel_rfl) (by kernel_rfl) hv h
  obtain ⟨a, e0, _, _⟩ := DataW.trod_int Tryd.underlying3 g0
  obtain ⟨b, e1, _, _⟩ := DataW.trod_int Tryd.underlying3 g1
  simp at e0 e1
  subst e0 e1
  obtain ⟨A, k, c, f, rfl, hn, hf⟩ := rd_pairs2 Tryd.underlying50 Tryd.underlying78 Tryd.underlying3 (by kernel_rfl) (by kernel_rfl) g2
  obtain ⟨A', m, c', g, rfl, hm, hg⟩ := rd_ints2 Tryd.underlying40 Tryd.underlying3 (by kernel_rfl) g3
  exact ⟨a, b, A, k, c, f, A', m, c', g, rfl, hn, hf, hm, hg⟩
theorem step_app {w : World} {B n c : Nat} {v : Value} {l m : List Int} {A : Option Addr} {ops : Array Oper} {o : Oper} {a : Act} {K : Act → World → Prop} {Q : Exit → Act → World → Prop} {E : Prop} (hgd : o.guard = none) (s x : Operand)
    (ho : o.op = .call { callee := .builtin .append, args := #[s, x], argTypes := #[27, 27] }) (hs : a.eval s = v) (hx : a.eval x = .slice A n c) (h : OB w B v l) (hu : Rb w A n c m) (hl : l.length + m.length ≤ 100000) (hB : B ≤ w.heap.size)
    (hK : ∀ v' w', OB w' B v' (l ++ m) → w.grownBy w' v.ownBlock → K (a.put o.dst v') w') :
    if Region.wanted o (yielded ops a.tmps) = true then Oper.wp Tryd.prog o a w K Q else E := by
  have hw : Region.wanted o (yielded ops a.tmps) = true := by simp [Region.wanted, hgd]
  rw [if_pos hw]
  obtain ⟨v', w', hr, h2, h3, _⟩ := run_app o.type h hu hl hB
  unfold Oper.wp execOp
  simp only [ho, resolve, invoke, builtin, Sem.run_bind, Sem.run_pure, Result.andThen_ok, List.map_toArray, List.map_cons, List.map_nil, hs, hx, hr]
  exact hK v' w' h2 h3
theorem six_pack {w : World} {B : Nat} {u0 u1 u2 u3 u4 u5 : Value} (h : Blk w B 25 #[u0, u1, u2, u3, u4, u5]) (v0 v1 v2 v3 v4 v5 : Value) : Blk (six w B v0 v1 v2 v3 v4 v5) B 25 #[v0, v1, v2, v3, v4, v5] ∧ Only (· = B) w (six w B v0 v1 v2 v3 v4 v5) := ⟨six_blk h, six_only⟩
/-- What lies behind the region: the box of what was read. -/
structure BackAt (w4 W : World) (BX : Nat) (a : Frm.Ak) (Ac : Option Addr) (nc cc : Nat) : Prop where
  bx : Blk W BX 25 #[.int .i64 a.d, .slice Ac nc cc, .bool a.mkd, .int .i64 a.e0, .int .i64 a.e1, .int .i64 a.e2]
  rg : Rg W Ac nc cc a.rs
  low : Below w4.heap.size w4 W
theorem back_early {w4 w7 : World} {BX S : Nat} {a : Frm.Ak} {Ac : Option Addr} {nc cc : Nat} {u0 u1 u2 u3 u4 u5 : Value} (h : Blk w7 BX 25 #[u0, u1, u2, u3, u4, u5]) (hr : Rg w7 Ac nc cc a.rs) (hl : Below w4.heap.size w4 w7) (hfr : ∀ x, Ac = some x → S ≤ x.block) (hb : BX < S) (h4 : w4.heap.size ≤ BX) :
    BackAt w4 (six w7 BX (.int .i64 a.d) (.slice Ac nc cc) (.bool a.mkd) (.int .i64 a.e0) (.int .i64 a.e1) (.int .i64 a.e2)) BX a Ac nc cc :=
  ⟨six_blk h, hr.only six_only (fun x hx => by have := hfr x hx; omega), only_old hl six_only (by rintro i rfl; exact h4) hl.size⟩
theorem back_late {w4 w7 : World} {a : Frm.Ak} {Ac : Option Addr} {nc cc : Nat} (hr : Rg w7 Ac nc cc a.rs) (hl : Below w4.heap.size w4 w7) :
    BackAt w4 (w7.alloc (.cells #[.int .i64 a.d, .slice Ac nc cc, .bool a.mkd, .int .i64 a.e0, .int .i64 a.e1, .int .i64 a.e2] 25)) w7.heap.size a Ac nc cc :=
  ⟨Blk.new _ _ _, hr.later (laterA (Below.refl _ _) _), laterA hl _⟩
theorem ob_low {w : World} {B : Nat} {v : Value} {l : List Int} (h : OB w B v l) : ∀ g, v.ownBlock = some g → B ≤ g := fun g hg => (World.ownsRow.lt h g hg).1
theorem blk_ob {w w' : World} {g B : Nat} {cs : Array Value} {v : Value} {l : List Int} (hk : Blk w g 25 cs) (h : OB w B v l) (hg : w.grownBy w' v.ownBlock) : Blk w' g 25 cs :=
  (hg.block g hk.lt (fun he => by
    rcases h.2 with ⟨rfl, _⟩ | ⟨g', cap, cur, rfl, _, hh, _⟩
    · simp [Value.ownBlock] at he
    · have : g' = g := by simpa [Value.ownBlock] using he.symm
      subst this
      exact Blk.ne_ (t := 5) hh hk (by decide) rfl)).trans hk
set_option maxHeartbeats 20000000 in
set_option maxRecDepth 100000 in
theorem frback_any (hi dl : Int) (A : Option Addr) (n c : Nat) (f : Nat → Nat → Int) (A' : Option Addr) (m c' : Nat) (g : Nat → Nat → Int) (A0 : Option Addr) (n0 c0 : Nat) (l0 : List Int) (w : World) (hL : Lim w) (hn : n ≤ 9223372036854775807) (hf : Rd w A 2 n f) (hm : m ≤ 9223372036854775807) (hg : Rd w A' 1 m g) (hr0 : Rb w A0 n0 c0 l0) (hb0 : Oct.Bys l0) :
    Calls Tryd.prog 7 #[.agg #[.int .i64 hi, .int .i64 dl, .slice A n c, .slice A' m c'], .slice A0 n0 c0] w fun e w' => e = .returned (.bool true) ∧ Below w.heap.size w w' := by
  have hS := laterA (Below.refl w.heap.size w) (.cells #[.int .i64 hi, .int .i64 dl, .slice A n c, .slice A' m c'] 52)
  have hbS := Blk.new w 52 #[.int .i64 hi, .int .i64 dl, .slice A n c, .slice A' m c']
  have hok := Frm.mk_ok hi dl f n g m
  have hW := fworks_any _ (hL.later hS)
  obtain ⟨a, ha⟩ : ∃ a, Frm.mk hi dl f n g m = a := ⟨_, rfl⟩
  rw [ha] at hok
  have hM := fun W (h : Below w.heap.size w W) => made_any5 hi dl A n c f A' m c' g W hn (hf.later h) hm (hg.later h)
  rw [ha] at hM
  clear ha hn hf hm hg
  obtain ⟨K, hK⟩ : ∃ K, min n0 40 = K := ⟨_, rfl⟩
  obtain ⟨A2, hsl, hr2⟩ := rb_to hr0 (K := K) (by omega)
  have hmin : min (n0 : Int) 40 = (K : Int) := by omega
  have hb2 : Oct.Bys (l0.take K) := fun x hx => hb0 x (List.mem_of_mem_take hx)
  have hlen : (l0.take K).length = K := hr2.1
  generalize l0.take K = lt at *
  obtain ⟨hl0, hl1⟩ := bytes_len hok
  have hbys := bytes_bys2 hok
  have hnx := Frm.nxt_enc hok lt
  have hpe := Frm.parse_enc hok
  have hB2 : (Frm.bytes a).2 = 0 := by unfold Frm.bytes; rw [if_pos hok]
  obtain ⟨L, e0, hY⟩ : ∃ L e, Frm.bytes a = (L, e) := ⟨_, _, rfl⟩
  rw [hY] at hl0 hl1 hbys hnx hpe hB2
  have he0 : e0 = 0 := hB2
  subst he0
  simp only at hl0 hl1 hnx hpe
  clear hB2 hr0 hb0
  replace hL := Lib.hid hL
  replace hS := Lib.hid hS
  replace hok := Lib.hid hok
  replace hbys := Lib.hid hbys
  replace hnx := Lib.hid hnx
  replace hpe := Lib.hid hpe
  replace hY := Lib.hid hY
  replace hM := Lib.hid hM
  replace hr2 := Lib.hid hr2
  replace hb2 := Lib.hid hb2
  replace hK := Lib.hid hK
  replace hbS := Lib.hid hbS
  go_enter Tryd.func7, Tryd.ntmps7
  go_wp2_with fail
  with_reducible refine hW.mono ?_
  clear hW
  rintro e w1 ⟨rfl, hb⟩
  have hlow := old_later2 hS.out hb hS.out.size
  have hM1 := hM.out w1 hlow
  have s0 := (hbS.out.later hb).cell 0
  have s1 := (hbS.out.later hb).cell 1
  have s2 := (hbS.out.later hb).cell 2
  have s3 := (hbS.out.later hb).cell 3
  simp at s0 s1 s2 s3
  replace hlow := Lib.hid hlow
  clear hb hM hS hbS
  go_wp2_with fail
  with_reducible refine hM1.mono ?_
  clear hM1 s0 s1 s2 s3
  rintro e w2 ⟨A1, m1, c1, rfl, hrg, hb⟩
  simp only [av]
  have hm1 := (ak_len hok.out hrg).1
  have hb2' := laterA (Below.refl w2.heap.size w2) (.cells #[.int .i64 a.d, .slice A1 m1 c1, .bool a.mkd, .int .i64 a.e0, .int .i64 a.e1, .int .i64 a.e2] 25)
  have hbA := Blk.new w2 25 #[.int .i64 a.d, .slice A1 m1 c1, .bool a.mkd, .int .i64 a.e0, .int .i64 a.e1, .int .i64 a.e2]
  replace hlow := old_later2 (old_later2 hlow.out hb hlow.out.size) hb2' (old_later2 hlow.out hb hlow.out.size).size
  replace hrg := hrg.later hb2'
  have hB := bytes_any a A1 m1 c1 _ (hL.out.later hlow) hrg (by omega)
  rw [hY.out] at hB
  simp only [av] at hB
  replace hlow := Lib.hid hlow
  replace hrg := Lib.hid hrg
  replace hbA := Lib.hid hbA
  replace hb2' := Lib.hid hb2'
  clear hb
  go_wp2_with fail
  with_reducible refine hB.mono ?_
  clear hB
  rintro e w3 ⟨qb, Ab, cb, rfl, hslb, hb⟩
  simp only at hslb
  replace hrg := hrg.out.later hb
  replace hbA := hbA.out.later hb
  replace hlow := old_later2 hlow.out hb hlow.out.size
  have hC := check_any a A1 m1 c1 w3 hrg (by omega)
  unfold ChkPost at hC
  rw [hok.out, if_pos rfl] at hC
  simp only [av] at hC
  have z0 := hbA.cell 0
  have z1 := hbA.cell 1
  have z2 := hbA.cell 2
  have z3 := hbA.cell 3
  have z4 := hbA.cell 4
  have z5 := hbA.cell 5
  simp at z0 z1 z2 z3 z4 z5
  replace hlow := Lib.hid hlow
  replace hrg := Lib.hid hrg
  replace hbA := Lib.hid hbA
  replace hslb := Lib.hid hslb
  clear hb
  go_wp2_with fail
  with_reducible refine hC.mono ?_
  clear hC z0 z1 z2 z3 z4 z5
  rintro e w4 ⟨rfl, hb⟩
  replace hrg := Lib.hid (hrg.out.later hb)
  replace hbA := Lib.hid (hbA.out.later hb)
  replace hslb := Lib.hid (hslb.out.later hb)
  replace hlow := Lib.hid (old_later2 hlow.out hb hlow.out.size)
  clear hb
  go_wp2_with fail
  have hz4 := (Blk.new w4 25 #[.int .i64 0, .slice none 0 0, .bool false, .int .i64 0, .int .i64 0, .int .i64 0]).drew
  have ha4 : Below w4.heap.size w4 (w4.alloc (.cells #[.int .i64 0, .slice none 0 0, .bool false, .int .i64 0, .int .i64 0, .int .i64 0] 25)).drew := laterD_ (laterA (Below.refl _ _) _)
  have hd4 : Below w4.heap.size w4 w4.drew := laterD_ (Below.refl _ _)
  have hCp := copyb_any Ab L.length cb L w4.drew (hslb.out.later hd4).rb (by omega)
  have hCp2 := copyb_any Ab L.length cb L (w4.alloc (.cells #[.int .i64 0, .slice none 0 0, .bool false, .int .i64 0, .int .i64 0, .int .i64 0] 25)).drew (hslb.out.later ha4).rb (by omega)
  have hrl := fun W (h : Below w4.heap.size w4 W) => (hr2.out.later hlow.out).later h
  have hLlt : L.length + lt.length ≤ 100000 := by omega
  have hlk : (L ++ lt).length = L.length + K := by rw [List.length_append, hlen]
  have hN : ∀ (W : World) (A6 : Option Addr) (c6 q6 : Nat), Below w4.heap.size w4 W → Sl W q6 A6 (L.length + K) c6 (L ++ lt) → Calls Tryd.prog 24 #[.slice A6 (L.length + K) c6] W (fun e w' => ∃ Ac nc cc, e = .returned (.tuple #[.agg #[.int .i64 a.d, .slice Ac nc cc, .bool a.mkd, .int .i64 a.e0, .int .i64 a.e1, .int .i64 a.e2], .int .i64 (L.length : Int), .int .i64 0]) ∧ Rg w' Ac nc cc a.rs ∧ (∀ x, Ac = some x → W.heap.size ≤ x.block) ∧ Below W.heap.size W w') := fun W A6 c6 q6 h1 h2 => by
    refine (next_any A6 (L.length + K) c6 q6 (L ++ lt) W (Nat.lt_of_lt_of_le (Nat.lt_of_le_of_lt (Nat.zero_le _) hbA.out.lt) h1.size) h2 (by omega) (Oct.Bys.app hbys.out hb2.out)).mono ?_
    rintro e w' ⟨Ac, nc, cc, he, h3, h4, h5⟩
    rw [hnx.out] at he h3
    exact ⟨Ac, nc, cc, he, h3, h4, h5⟩
  replace hz4 := Lib.hid hz4
  replace ha4 := Lib.hid ha4
  replace hd4 := Lib.hid hd4
  replace hCp := Lib.hid hCp
  replace hCp2 := Lib.hid hCp2
  replace hrl := Lib.hid hrl
  replace hN := Lib.hid hN
  replace hlk := Lib.hid hlk
  go_region_held3 (fun _ => True) (trivial) (first
    | (go_at_call 26; (with_reducible refine hCp.out.mono ?_); rintro e w5 ⟨v5, rfl, hob, hb⟩; have hl5 := Lib.hid (hd4.out.trans hb); have hob5 := Lib.hid hob; clear hob hb)
    | (go_at_call 26; (with_reducible refine hCp2.out.mono ?_); rintro e w5 ⟨v5, rfl, hob, hb⟩; have hl5 := Lib.hid (old_later2 ha4.out hb ha4.out.size); have hob5 := Lib.hid (hob.mono (B' := w4.heap.size) ha4.out.size); have hz5 := Lib.hid (hz4.out.later hb); clear hob hb)
    | (refine step_app (A := A2) (n := K) (c := c0) (m := lt) (l := L) (B := w4.heap.size) rfl _ _ rfl rfl rfl hob5.out (hrl.out _ hl5.out) hLlt hl5.out.size ?_; intro v6 w6 hob6 hg6; have hl6 := Lib.hid (only_old hl5.out (Only.of_row hg6) (fun g hg => (ob_low hob5.out g hg)) hl5.out.size); (try (have hz6 := Lib.hid (blk_ob hz5.out hob5.out hg6))); obtain ⟨q6, A6, c6, rfl, _, hsl6, _⟩ := hob6.open_; rw [hlk.out] at hsl6; replace hsl6 := Lib.hid hsl6; clear hob6 hg6)
    | (refine step_app (A := A2) (n := K) (c := c0) (m := lt) (l := L) (B := w4.heap.size) rfl _ _ rfl rfl rfl (hob5.out.alloc _) (hrl.out _ (laterA hl5.out _)) hLlt (laterA hl5.out _).size ?_; intro v6 w6 hob6 hg6; have hl6 := Lib.hid (only_old (laterA hl5.out _) (Only.of_row hg6) (fun g hg => (ob_low hob5.out g hg)) (laterA hl5.out _).size); have hz6 := Lib.hid (blk_ob (Blk.new w5 25 #[.int .i64 0, .slice none 0 0, .bool false, .int .i64 0, .int .i64 0, .int .i64 0]) (hob5.out.alloc _) hg6); obtain ⟨q6, A6, c6, rfl, _, hsl6, _⟩ := hob6.open_; rw [hlk.out] at hsl6; replace hsl6 := Lib.hid hsl6; clear hob6 hg6)
    | (go_at_call 24; (with_reducible refine (hN.out w6 A6 c6 q6 hl6.out hsl6.out).mono ?_); rintro e w7 ⟨Ac, nc, cc, rfl, hrgc, hfr, hb⟩; replace hfr := Lib.hid hfr; (try (have hzl := Lib.hid hz6.out.lt)); have hl7 := Lib.hid (old_later2 hl6.out hb hl6.out.size); (try (have hz7 := Lib.hid (hz6.out.later hb))); (try (have y0 := hz7.out.cell 0; have y1 := hz7.out.cell 1; have y2 := hz7.out.cell 2; have y3 := hz7.out.cell 3; have y4 := hz7.out.cell 4; have y5 := hz7.out.cell 5; have x0 := hz7.out.frozen 0; have x1 := hz7.out.frozen 1; have x2 := hz7.out.frozen 2; have x3 := hz7.out.frozen 3; have x4 := hz7.out.frozen 4; have x5 := hz7.out.frozen 5; simp at y0 y1 y2 y3 y4 y5)); replace hrgc := Lib.hid hrgc; clear hb)
    | (go_at_call 24; (with_reducible refine (hN.out _ A6 c6 q6 (laterA hl6.out _) (hsl6.out.later (laterA (Below.refl _ _) _))).mono ?_); rintro e w7 ⟨Ac, nc, cc, rfl, hrgc, hfr, hb⟩; replace hfr := Lib.hid hfr; have hzl := Lib.hid (show w6.heap.size < (w6.alloc (.cells #[.int .i64 0, .slice none 0 0, .bool false, .int .i64 0, .int .i64 0, .int .i64 0] 25)).heap.size by simp); have hl7 := Lib.hid (old_later2 (laterA hl6.out _) hb (laterA hl6.out _).size); have hz7 := Lib.hid ((Blk.new w6 25 #[.int .i64 0, .slice none 0 0, .bool false, .int .i64 0, .int .i64 0, .int .i64 0]).later hb); (try (have y0 := hz7.out.cell 0; have y1 := hz7.out.cell 1; have y2 := hz7.out.cell 2; have y3 := hz7.out.cell 3; have y4 := hz7.out.cell 4; have y5 := hz7.out.cell 5; have x0 := hz7.out.frozen 0; have x1 := hz7.out.frozen 1; have x2 := hz7.out.frozen 2; have x3 := hz7.out.frozen 3; have x4 := hz7.out.frozen 4; have x5 := hz7.out.frozen 5; simp at y0 y1 y2 y3 y4 y5)); replace hrgc := Lib.hid hrgc; clear hb)
    | fail)
  all_goals rename_i hHeld
  all_goals clear hHeld
  all_goals (first
    | (have hF := back_early (w4 := w4) (BX := w4.heap.size) hz7.out hrgc.out hl7.out hfr.out hzl.out (by first | exact Nat.le_refl _ | exact hl5.out.size | exact hl6.out.size); (obtain ⟨WF, hWF⟩ : ∃ W, six w7 w4.heap.size (.int .i64 a.d) (.slice Ac nc cc) (.bool a.mkd) (.int .i64 a.e0) (.int .i64 a.e1) (.int .i64 a.e2) = W := ⟨_, rfl⟩); (rw [hWF] at hF); unfold six at hWF; (rw [hWF]); clear hWF)
    | (have hF := back_early (w4 := w4) (BX := w5.heap.size) hz7.out hrgc.out hl7.out hfr.out hzl.out (by first | exact Nat.le_refl _ | exact hl5.out.size | exact hl6.out.size); (obtain ⟨WF, hWF⟩ : ∃ W, six w7 w5.heap.size (.int .i64 a.d) (.slice Ac nc cc) (.bool a.mkd) (.int .i64 a.e0) (.int .i64 a.e1) (.int .i64 a.e2) = W := ⟨_, rfl⟩); (rw [hWF] at hF); unfold six at hWF; (rw [hWF]); clear hWF)
    | (have hF := back_early (w4 := w4) (BX := w6.heap.size) hz7.out hrgc.out hl7.out hfr.out hzl.out (by first | exact Nat.le_refl _ | exact hl5.out.size | exact hl6.out.size); (obtain ⟨WF, hWF⟩ : ∃ W, six w7 w6.heap.size (.int .i64 a.d) (.slice Ac nc cc) (.bool a.mkd) (.int .i64 a.e0) (.int .i64 a.e1) (.int .i64 a.e2) = W := ⟨_, rfl⟩); (rw [hWF] at hF); unfold six at hWF; (rw [hWF]); clear hWF)
    | (have hF := back_late (w4 := w4) hrgc.out hl7.out; generalize w7.alloc (.cells #[.int .i64 a.d, .slice Ac nc cc, .bool a.mkd, .int .i64 a.e0, .int .i64 a.e1, .int .i64 a.e2] 25) = WF at hF ⊢)
    | fail)
  all_goals (try clear hz7)
  all_goals (try clear y0 y1 y2 y3 y4 y5 x0 x1 x2 x3 x4 x5)
  -- REST
  · have hrgW := hrg.out.later hF.low
    have hbAW := hbA.out.later hF.low
    have hslW := hslb.out.later hF.low
    have hlowW := old_later2 hlow.out hF.low hlow.out.size
    have hP := parse_any Ab L.length cb qb L WF hslW (by omega) hbys.out
    rw [hpe.out] at hP
    replace hrgW := Lib.hid hrgW
    replace hbAW := Lib.hid hbAW
    replace hslW := Lib.hid hslW
    replace hlowW := Lib.hid hlowW
    replace hF := Lib.hid hF
    go_wp2_with fail
    with_reducible refine hP.mono ?_
    clear hP
    rintro e w8 ⟨Ad, nd, cd, rfl, hrgd, _, hb⟩
    simp only [av]
    have hb9 := laterA (Below.refl w8.heap.size w8) (.cells #[.int .i64 a.d, .slice Ad nd cd, .bool a.mkd, .int .i64 a.e0, .int .i64 a.e1, .int .i64 a.e2] 25)
    have hbD := Blk.new w8 25 #[.int .i64 a.d, .slice Ad nd cd, .bool a.mkd, .int .i64 a.e0, .int .i64 a.e1, .int .i64 a.e2]
    have hbC9 := (hF.out.bx.later hb).later hb9
    have hbA9 := (hbAW.out.later hb).later hb9
    have rgA := (hrgW.out.later hb).later hb9
    have rgC := (hF.out.rg.later hb).later hb9
    have rgD := hrgd.later hb9
    have hlow9 := old_later2 (old_later2 hlowW.out hb hlowW.out.size) hb9 (old_later2 hlowW.out hb hlowW.out.size).size
    obtain ⟨W9, hW9⟩ : ∃ W, w8.alloc (.cells #[.int .i64 a.d, .slice Ad nd cd, .bool a.mkd, .int .i64 a.e0, .int .i64 a.e1, .int .i64 a.e2] 25) = W := ⟨_, rfl⟩
    rw [hW9] at hbD hbC9 hbA9 rgA rgC rgD hlow9 hb9
    have hS1 := fsame_any a a A1 Ac m1 c1 nc cc W9 rgA rgC (by omega)
    rw [(Frm.sm_iff a a).2 rfl] at hS1
    simp only [av] at hS1
    have p0 := hbA9.cell 0
    have p1 := hbA9.cell 1
    have p2 := hbA9.cell 2
    have p3 := hbA9.cell 3
    have p4 := hbA9.cell 4
    have p5 := hbA9.cell 5
    have q0 := hbC9.cell 0
    have q1 := hbC9.cell 1
    have q2 := hbC9.cell 2
    have q3 := hbC9.cell 3
    have q4 := hbC9.cell 4
    have q5 := hbC9.cell 5
    simp at p0 p1 p2 p3 p4 p5 q0 q1 q2 q3 q4 q5
    clear hb hrgd hbAW hrgW hslW hF
    replace hb9 := Lib.hid hb9
    replace hbD := Lib.hid hbD
    replace hbC9 := Lib.hid hbC9
    replace hbA9 := Lib.hid hbA9
    replace rgA := Lib.hid rgA
    replace rgC := Lib.hid rgC
    replace rgD := Lib.hid rgD
    replace hlow9 := Lib.hid hlow9
    go_wp2_with fail
    with_reducible refine hS1.mono ?_
    clear hS1 p0 p1 p2 p3 p4 p5 q0 q1 q2 q3 q4 q5
    rintro e w10 ⟨rfl, hb⟩
    have hbA10 := hbA9.out.later hb
    have hbD10 := hbD.out.later hb
    have hS2 := fsame_any a a A1 Ad m1 c1 nd cd w10 (rgA.out.later hb) (rgD.out.later hb) (by omega)
    rw [(Frm.sm_iff a a).2 rfl] at hS2
    simp only [av] at hS2
    have hlow10 := Lib.hid (old_later2 hlow9.out hb hlow9.out.size)
    have p0 := hbA10.cell 0
    have p1 := hbA10.cell 1
    have p2 := hbA10.cell 2
    have p3 := hbA10.cell 3
    have p4 := hbA10.cell 4
    have p5 := hbA10.cell 5
    have q0 := hbD10.cell 0
    have q1 := hbD10.cell 1
    have q2 := hbD10.cell 2
    have q3 := hbD10.cell 3
    have q4 := hbD10.cell 4
    have q5 := hbD10.cell 5
    simp at p0 p1 p2 p3 p4 p5 q0 q1 q2 q3 q4 q5
    replace hbA10 := Lib.hid hbA10
    replace hbD10 := Lib.hid hbD10
    clear hb
    go_wp2_with fail
    with_reducible refine hS2.mono ?_
    clear hS2
    rintro e w11 ⟨rfl, hb⟩
    go_wp2
    go_ret
    exact ⟨rfl, old_later2 hlow10.out hb hlow10.out.size⟩
  · have hrgW := hrg.out.later hF.low
    have hbAW := hbA.out.later hF.low
    have hslW := hslb.out.later hF.low
    have hlowW := old_later2 hlow.out hF.low hlow.out.size
    have hP := parse_any Ab L.length cb qb L WF hslW (by omega) hbys.out
    rw [hpe.out] at hP
    replace hrgW := Lib.hid hrgW
    replace hbAW := Lib.hid hbAW
    replace hslW := Lib.hid hslW
    replace hlowW := Lib.hid hlowW
    replace hF := Lib.hid hF
    go_wp2_with fail
    with_reducible refine hP.mono ?_
    clear hP
    rintro e w8 ⟨Ad, nd, cd, rfl, hrgd, _, hb⟩
    simp only [av]
    have hb9 := laterA (Below.refl w8.heap.size w8) (.cells #[.int .i64 a.d, .slice Ad nd cd, .bool a.mkd, .int .i64 a.e0, .int .i64 a.e1, .int .i64 a.e2] 25)
    have hbD := Blk.new w8 25 #[.int .i64 a.d, .slice Ad nd cd, .bool a.mkd, .int .i64 a.e0, .int .i64 a.e1, .int .i64 a.e2]
    have hbC9 := (hF.out.bx.later hb).later hb9
    have hbA9 := (hbAW.out.later hb).later hb9
    have rgA := (hrgW.out.later hb).later hb9
    have rgC := (hF.out.rg.later hb).later hb9
    have rgD := hrgd.later hb9
    have hlow9 := old_later2 (old_later2 hlowW.out hb hlowW.out.size) hb9 (old_later2 hlowW.out hb hlowW.out.size).size
    obtain ⟨W9, hW9⟩ : ∃ W, w8.alloc (.cells #[.int .i64 a.d, .slice Ad nd cd, .bool a.mkd, .int .i64 a.e0, .int .i64 a.e1, .int .i64 a.e2] 25) = W := ⟨_, rfl⟩
    rw [hW9] at hbD hbC9 hbA9 rgA rgC rgD hlow9 hb9
    have hS1 := fsame_any a a A1 Ac m1 c1 nc cc W9 rgA rgC (by omega)
    rw [(Frm.sm_iff a a).2 rfl] at hS1
    simp only [av] at hS1
    have p0 := hbA9.cell 0
    have p1 := hbA9.cell 1
    have p2 := hbA9.cell 2
    have p3 := hbA9.cell 3
    have p4 := hbA9.cell 4
    have p5 := hbA9.cell 5
    have q0 := hbC9.cell 0
    have q1 := hbC9.cell 1
    have q2 := hbC9.cell 2
    have q3 := hbC9.cell 3
    have q4 := hbC9.cell 4
    have q5 := hbC9.cell 5
    simp at p0 p1 p2 p3 p4 p5 q0 q1 q2 q3 q4 q5
    clear hb hrgd hbAW hrgW hslW hF
    replace hb9 := Lib.hid hb9
    replace hbD := Lib.hid hbD
    replace hbC9 := Lib.hid hbC9
    replace hbA9 := Lib.hid hbA9
    replace rgA := Lib.hid rgA
    replace rgC := Lib.hid rgC
    replace rgD := Lib.hid rgD
    replace hlow9 := Lib.hid hlow9
    go_wp2_with fail
    with_reducible refine hS1.mono ?_
    clear hS1 p0 p1 p2 p3 p4 p5 q0 q1 q2 q3 q4 q5
    rintro e w10 ⟨rfl, hb⟩
    have hbA10 := hbA9.out.later hb
    have hbD10 := hbD.out.later hb
    have hS2 := fsame_any a a A1 Ad m1 c1 nd cd w10 (rgA.out.later hb) (rgD.out.later hb) (by omega)
    rw [(Frm.sm_iff a a).2 rfl] at hS2
    simp only [av] at hS2
    have hlow10 := Lib.hid (old_later2 hlow9.out hb hlow9.out.size)
    have p0 := hbA10.cell 0
    have p1 := hbA10.cell 1
    have p2 := hbA10.cell 2
    have p3 := hbA10.cell 3
    have p4 := hbA10.cell 4
    have p5 := hbA10.cell 5
    have q0 := hbD10.cell 0
    have q1 := hbD10.cell 1
    have q2 := hbD10.cell 2
    have q3 := hbD10.cell 3
    have q4 := hbD10.cell 4
    have q5 := hbD10.cell 5
    simp at p0 p1 p2 p3 p4 p5 q0 q1 q2 q3 q4 q5
    replace hbA10 := Lib.hid hbA10
    replace hbD10 := Lib.hid hbD10
    clear hb
    go_wp2_with fail
    with_reducible refine hS2.mono ?_
    clear hS2
    rintro e w11 ⟨rfl, hb⟩
    go_wp2
    go_ret
    exact ⟨rfl, old_later2 hlow10.out hb hlow10.out.size⟩
  · have hrgW := hrg.out.later hF.low
    have hbAW := hbA.out.later hF.low
    have hslW := hslb.out.later hF.low
    have hlowW := old_later2 hlow.out hF.low hlow.out.size
    have hP := parse_any Ab L.length cb qb L WF hslW (by omega) hbys.out
    rw [hpe.out] at hP
    replace hrgW := Lib.hid hrgW
    replace hbAW := Lib.hid hbAW
    replace hslW := Lib.hid hslW
    replace hlowW := Lib.hid hlowW
    replace hF := Lib.hid hF
    go_wp2_with fail
    with_reducible refine hP.mono ?_
    clear hP
    rintro e w8 ⟨Ad, nd, cd, rfl, hrgd, _, hb⟩
    simp only [av]
    have hb9 := laterA (Below.refl w8.heap.size w8) (.cells #[.int .i64 a.d, .slice Ad nd cd, .bool a.mkd, .int .i64 a.e0, .int .i64 a.e1, .int .i64 a.e2] 25)
    have hbD := Blk.new w8 25 #[.int .i64 a.d, .slice Ad nd cd, .bool a.mkd, .int .i64 a.e0, .int .i64 a.e1, .int .i64 a.e2]
    have hbC9 := (hF.out.bx.later hb).later hb9
    have hbA9 := (hbAW.out.later hb).later hb9
    have rgA := (hrgW.out.later hb).later hb9
    have rgC := (hF.out.rg.later hb).later hb9
    have rgD := hrgd.later hb9
    have hlow9 := old_later2 (old_later2 hlowW.out hb hlowW.out.size) hb9 (old_later2 hlowW.out hb hlowW.out.size).size
    obtain ⟨W9, hW9⟩ : ∃ W, w8.alloc (.cells #[.int .i64 a.d, .slice Ad nd cd, .bool a.mkd, .int .i64 a.e0, .int .i64 a.e1, .int .i64 a.e2] 25) = W := ⟨_, rfl⟩
    rw [hW9] at hbD hbC9 hbA9 rgA rgC rgD hlow9 hb9
    have hS1 := fsame_any a a A1 Ac m1 c1 nc cc W9 rgA rgC (by omega)
    rw [(Frm.sm_iff a a).2 rfl] at hS1
    simp only [av] at hS1
    have p0 := hbA9.cell 0
    have p1 := hbA9.cell 1
    have p2 := hbA9.cell 2
    have p3 := hbA9.cell 3
    have p4 := hbA9.cell 4
    have p5 := hbA9.cell 5
    have q0 := hbC9.cell 0
    have q1 := hbC9.cell 1
    have q2 := hbC9.cell 2
    have q3 := hbC9.cell 3
    have q4 := hbC9.cell 4
    have q5 := hbC9.cell 5
    simp at p0 p1 p2 p3 p4 p5 q0 q1 q2 q3 q4 q5
    clear hb hrgd hbAW hrgW hslW hF
    replace hb9 := Lib.hid hb9
    replace hbD := Lib.hid hbD
    replace hbC9 := Lib.hid hbC9
    replace hbA9 := Lib.hid hbA9
    replace rgA := Lib.hid rgA
    replace rgC := Lib.hid rgC
    replace rgD := Lib.hid rgD
    replace hlow9 := Lib.hid hlow9
    go_wp2_with fail
    with_reducible refine hS1.mono ?_
    clear hS1 p0 p1 p2 p3 p4 p5 q0 q1 q2 q3 q4 q5
    rintro e w10 ⟨rfl, hb⟩
    have hbA10 := hbA9.out.later hb
    have hbD10 := hbD.out.later hb
    have hS2 := fsame_any a a A1 Ad m1 c1 nd cd w10 (rgA.out.later hb) (rgD.out.later hb) (by omega)
    rw [(Frm.sm_iff a a).2 rfl] at hS2
    simp only [av] at hS2
    have hlow10 := Lib.hid (old_later2 hlow9.out hb hlow9.out.size)
    have p0 := hbA10.cell 0
    have p1 := hbA10.cell 1
    have p2 := hbA10.cell 2
    have p3 := hbA10.cell 3
    have p4 := hbA10.cell 4
    have p5 := hbA10.cell 5
    have q0 := hbD10.cell 0
    have q1 := hbD10.cell 1
    have q2 := hbD10.cell 2
    have q3 := hbD10.cell 3
    have q4 := hbD10.cell 4
    have q5 := hbD10.cell 5
    simp at p0 p1 p2 p3 p4 p5 q0 q1 q2 q3 q4 q5
    replace hbA10 := Lib.hid hbA10
    replace hbD10 := Lib.hid hbD10
    clear hb
    go_wp2_with fail
    with_reducible refine hS2.mono ?_
    clear hS2
    rintro e w11 ⟨rfl, hb⟩
    go_wp2
    go_ret
    exact ⟨rfl, old_later2 hlow10.out hb hlow10.out.size⟩
  · have hrgW := hrg.out.later hF.low
    have hbAW := hbA.out.later hF.low
    have hslW := hslb.out.later hF.low
    have hlowW := old_later2 hlow.out hF.low hlow.out.size
    have hP := parse_any Ab L.length cb qb L WF hslW (by omega) hbys.out
    rw [hpe.out] at hP
    replace hrgW := Lib.hid hrgW
    replace hbAW := Lib.hid hbAW
    replace hslW := Lib.hid hslW
    replace hlowW := Lib.hid hlowW
    replace hF := Lib.hid hF
    go_wp2_with fail
    with_reducible refine hP.mono ?_
    clear hP
    rintro e w8 ⟨Ad, nd, cd, rfl, hrgd, _, hb⟩
    simp only [av]
    have hb9 := laterA (Below.refl w8.heap.size w8) (.cells #[.int .i64 a.d, .slice Ad nd cd, .bool a.mkd, .int .i64 a.e0, .int .i64 a.e1, .int .i64 a.e2] 25)
    have hbD := Blk.new w8 25 #[.int .i64 a.d, .slice Ad nd cd, .bool a.mkd, .int .i64 a.e0, .int .i64 a.e1, .int .i64 a.e2]
    have hbC9 := (hF.out.bx.later hb).later hb9
    have hbA9 := (hbAW.out.later hb).later hb9
    have rgA := (hrgW.out.later hb).later hb9
    have rgC := (hF.out.rg.later hb).later hb9
    have rgD := hrgd.later hb9
    have hlow9 := old_later2 (old_later2 hlowW.out hb hlowW.out.size) hb9 (old_later2 hlowW.out hb hlowW.out.size).size
    obtain ⟨W9, hW9⟩ : ∃ W, w8.alloc (.cells #[.int .i64 a.d, .slice Ad nd cd, .bool a.mkd, .int .i64 a.e0, .int .i64 a.e1, .int .i64 a.e2] 25) = W := ⟨_, rfl⟩
    rw [hW9] at hbD hbC9 hbA9 rgA rgC rgD hlow9 hb9
    have hS1 := fsame_any a a A1 Ac m1 c1 nc cc W9 rgA rgC (by omega)
    rw [(Frm.sm_iff a a).2 rfl] at hS1
    simp only [av] at hS1
    have p0 := hbA9.cell 0
    have p1 := hbA9.cell 1
    have p2 := hbA9.cell 2
    have p3 := hbA9.cell 3
    have p4 := hbA9.cell 4
    have p5 := hbA9.cell 5
    have q0 := hbC9.cell 0
    have q1 := hbC9.cell 1
    have q2 := hbC9.cell 2
    have q3 := hbC9.cell 3
    have q4 := hbC9.cell 4
    have q5 := hbC9.cell 5
    simp at p0 p1 p2 p3 p4 p5 q0 q1 q2 q3 q4 q5
    clear hb hrgd hbAW hrgW hslW hF
    replace hb9 := Lib.hid hb9
    replace hbD := Lib.hid hbD
    replace hbC9 := Lib.hid hbC9
    replace hbA9 := Lib.hid hbA9
    replace rgA := Lib.hid rgA
    replace rgC := Lib.hid rgC
    replace rgD := Lib.hid rgD
    replace hlow9 := Lib.hid hlow9
    go_wp2_with fail
    with_reducible refine hS1.mono ?_
    clear hS1 p0 p1 p2 p3 p4 p5 q0 q1 q2 q3 q4 q5
    rintro e w10 ⟨rfl, hb⟩
    have hbA10 := hbA9.out.later hb
    have hbD10 := hbD.out.later hb
    have hS2 := fsame_any a a A1 Ad m1 c1 nd cd w10 (rgA.out.later hb) (rgD.out.later hb) (by omega)
    rw [(Frm.sm_iff a a).2 rfl] at hS2
    simp only [av] at hS2
    have hlow10 := Lib.hid (old_later2 hlow9.out hb hlow9.out.size)
    have p0 := hbA10.cell 0
    have p1 := hbA10.cell 1
    have p2 := hbA10.cell 2
    have p3 := hbA10.cell 3
    have p4 := hbA10.cell 4
    have p5 := hbA10.cell 5
    have q0 := hbD10.cell 0
    have q1 := hbD10.cell 1
    have q2 := hbD10.cell 2
    have q3 := hbD10.cell 3
    have q4 := hbD10.cell 4
    have q5 := hbD10.cell 5
    simp at p0 p1 p2 p3 p4 p5 q0 q1 q2 q3 q4 q5
    replace hbA10 := Lib.hid hbA10
    replace hbD10 := Lib.hid hbD10
    clear hb
    go_wp2_with fail
    with_reducible refine hS2.mono ?_
    clear hS2
    rintro e w11 ⟨rfl, hb⟩
    go_wp2
    go_ret
    exact ⟨rfl, old_later2 hlow10.out hb hlow10.out.size⟩
  · have hrgW := hrg.out.later hF.low
    have hbAW := hbA.out.later hF.low
    have hslW := hslb.out.later hF.low
    have hlowW := old_later2 hlow.out hF.low hlow.out.size
    have hP := parse_any Ab L.length cb qb L WF hslW (by omega) hbys.out
    rw [hpe.out] at hP
    replace hrgW := Lib.hid hrgW
    replace hbAW := Lib.hid hbAW
    replace hslW := Lib.hid hslW
    replace hlowW := Lib.hid hlowW
    replace hF := Lib.hid hF
    go_wp2_with fail
    with_reducible refine hP.mono ?_
    clear hP
    rintro e w8 ⟨Ad, nd, cd, rfl, hrgd, _, hb⟩
    simp only [av]
    have hb9 := laterA (Below.refl w8.heap.size w8) (.cells #[.int .i64 a.d, .slice Ad nd cd, .bool a.mkd, .int .i64 a.e0, .int .i64 a.e1, .int .i64 a.e2] 25)
    have hbD := Blk.new w8 25 #[.int .i64 a.d, .slice Ad nd cd, .bool a.mkd, .int .i64 a.e0, .int .i64 a.e1, .int .i64 a.e2]
    have hbC9 := (hF.out.bx.later hb).later hb9
    have hbA9 := (hbAW.out.later hb).later hb9
    have rgA := (hrgW.out.later hb).later hb9
    have rgC := (hF.out.rg.later hb).later hb9
    have rgD := hrgd.later hb9
    have hlow9 := old_later2 (old_later2 hlowW.out hb hlowW.out.size) hb9 (old_later2 hlowW.out hb hlowW.out.size).size
    obtain ⟨W9, hW9⟩ : ∃ W, w8.alloc (.cells #[.int .i64 a.d, .slice Ad nd cd, .bool a.mkd, .int .i64 a.e0, .int .i64 a.e1, .int .i64 a.e2] 25) = W := ⟨_, rfl⟩
    rw [hW9] at hbD hbC9 hbA9 rgA rgC rgD hlow9 hb9
    have hS1 := fsame_any a a A1 Ac m1 c1 nc cc W9 rgA rgC (by omega)
    rw [(Frm.sm_iff a a).2 rfl] at hS1
    simp only [av] at hS1
    have p0 := hbA9.cell 0
    have p1 := hbA9.cell 1
    have p2 := hbA9.cell 2
    have p3 := hbA9.cell 3
    have p4 := hbA9.cell 4
    have p5 := hbA9.cell 5
    have q0 := hbC9.cell 0
    have q1 := hbC9.cell 1
    have q2 := hbC9.cell 2
    have q3 := hbC9.cell 3
    have q4 := hbC9.cell 4
    have q5 := hbC9.cell 5
    simp at p0 p1 p2 p3 p4 p5 q0 q1 q2 q3 q4 q5
    clear hb hrgd hbAW hrgW hslW hF
    replace hb9 := Lib.hid hb9
    replace hbD := Lib.hid hbD
    replace hbC9 := Lib.hid hbC9
    replace hbA9 := Lib.hid hbA9
    replace rgA := Lib.hid rgA
    replace rgC := Lib.hid rgC
    replace rgD := Lib.hid rgD
    replace hlow9 := Lib.hid hlow9
    go_wp2_with fail
    with_reducible refine hS1.mono ?_
    clear hS1 p0 p1 p2 p3 p4 p5 q0 q1 q2 q3 q4 q5
    rintro e w10 ⟨rfl, hb⟩
    have hbA10 := hbA9.out.later hb
    have hbD10 := hbD.out.later hb
    have hS2 := fsame_any a a A1 Ad m1 c1 nd cd w10 (rgA.out.later hb) (rgD.out.later hb) (by omega)
    rw [(Frm.sm_iff a a).2 rfl] at hS2
    simp only [av] at hS2
    have hlow10 := Lib.hid (old_later2 hlow9.out hb hlow9.out.size)
    have p0 := hbA10.cell 0
    have p1 := hbA10.cell 1
    have p2 := hbA10.cell 2
    have p3 := hbA10.cell 3
    have p4 := hbA10.cell 4
    have p5 := hbA10.cell 5
    have q0 := hbD10.cell 0
    have q1 := hbD10.cell 1
    have q2 := hbD10.cell 2
    have q3 := hbD10.cell 3
    have q4 := hbD10.cell 4
    have q5 := hbD10.cell 5
    simp at p0 p1 p2 p3 p4 p5 q0 q1 q2 q3 q4 q5
    replace hbA10 := Lib.hid hbA10
    replace hbD10 := Lib.hid hbD10
    clear hb
    go_wp2_with fail
    with_reducible refine hS2.mono ?_
    clear hS2
    rintro e w11 ⟨rfl, hb⟩
    go_wp2
    go_ret
    exact ⟨rfl, old_later2 hlow10.out hb hlow10.out.size⟩
  · have hrgW := hrg.out.later hF.low
    have hbAW := hbA.out.later hF.low
    have hslW := hslb.out.later hF.low
    have hlowW := old_later2 hlow.out hF.low hlow.out.size
    have hP := parse_any Ab L.length cb qb L WF hslW (by omega) hbys.out
    rw [hpe.out] at hP
    replace hrgW := Lib.hid hrgW
    replace hbAW := Lib.hid hbAW
    replace hslW := Lib.hid hslW
    replace hlowW := Lib.hid hlowW
    replace hF := Lib.hid hF
    go_wp2_with fail
    with_reducible refine hP.mono ?_
    clear hP
    rintro e w8 ⟨Ad, nd, cd, rfl, hrgd, _, hb⟩
    simp only [av]
    have hb9 := laterA (Below.refl w8.heap.size w8) (.cells #[.int .i64 a.d, .slice Ad nd cd, .bool a.mkd, .int .i64 a.e0, .int .i64 a.e1, .int .i64 a.e2] 25)
    have hbD := Blk.new w8 25 #[.int .i64 a.d, .slice Ad nd cd, .bool a.mkd, .int .i64 a.e0, .int .i64 a.e1, .int .i64 a.e2]
    have hbC9 := (hF.out.bx.later hb).later hb9
    have hbA9 := (hbAW.out.later hb).later hb9
    have rgA := (hrgW.out.later hb).later hb9
    have rgC := (hF.out.rg.later hb).later hb9
    have rgD := hrgd.later hb9
    have hlow9 := old_later2 (old_later2 hlowW.out hb hlowW.out.size) hb9 (old_later2 hlowW.out hb hlowW.out.size).size
    obtain ⟨W9, hW9⟩ : ∃ W, w8.alloc (.cells #[.int .i64 a.d, .slice Ad nd cd, .bool a.mkd, .int .i64 a.e0, .int .i64 a.e1, .int .i64 a.e2] 25) = W := ⟨_, rfl⟩
    rw [hW9] at hbD hbC9 hbA9 rgA rgC rgD hlow9 hb9
    have hS1 := fsame_any a a A1 Ac m1 c1 nc cc W9 rgA rgC (by omega)
    rw [(Frm.sm_iff a a).2 rfl] at hS1
    simp only [av] at hS1
    have p0 := hbA9.cell 0
    have p1 := hbA9.cell 1
    have p2 := hbA9.cell 2
    have p3 := hbA9.cell 3
    have p4 := hbA9.cell 4
    have p5 := hbA9.cell 5
    have q0 := hbC9.cell 0
    have q1 := hbC9.cell 1
    have q2 := hbC9.cell 2
    have q3 := hbC9.cell 3
    have q4 := hbC9.cell 4
    have q5 := hbC9.cell 5
    simp at p0 p1 p2 p3 p4 p5 q0 q1 q2 q3 q4 q5
    clear hb hrgd hbAW hrgW hslW hF
    replace hb9 := Lib.hid hb9
    replace hbD := Lib.hid hbD
    replace hbC9 := Lib.hid hbC9
    replace hbA9 := Lib.hid hbA9
    replace rgA := Lib.hid rgA
    replace rgC := Lib.hid rgC
    replace rgD := Lib.hid rgD
    replace hlow9 := Lib.hid hlow9
    go_wp2_with fail
    with_reducible refine hS1.mono ?_
    clear hS1 p0 p1 p2 p3 p4 p5 q0 q1 q2 q3 q4 q5
    rintro e w10 ⟨rfl, hb⟩
    have hbA10 := hbA9.out.later hb
    have hbD10 := hbD.out.later hb
    have hS2 := fsame_any a a A1 Ad m1 c1 nd cd w10 (rgA.out.later hb) (rgD.out.later hb) (by omega)
    rw [(Frm.sm_iff a a).2 rfl] at hS2
    simp only [av] at hS2
    have hlow10 := Lib.hid (old_later2 hlow9.out hb hlow9.out.size)
    have p0 := hbA10.cell 0
    have p1 := hbA10.cell 1
    have p2 := hbA10.cell 2
    have p3 := hbA10.cell 3
    have p4 := hbA10.cell 4
    have p5 := hbA10.cell 5
    have q0 := hbD10.cell 0
    have q1 := hbD10.cell 1
    have q2 := hbD10.cell 2
    have q3 := hbD10.cell 3
    have q4 := hbD10.cell 4
    have q5 := hbD10.cell 5
    simp at p0 p1 p2 p3 p4 p5 q0 q1 q2 q3 q4 q5
    replace hbA10 := Lib.hid hbA10
    replace hbD10 := Lib.hid hbD10
    clear hb
    go_wp2_with fail
    with_reducible refine hS2.mono ?_
    clear hS2
    rintro e w11 ⟨rfl, hb⟩
    go_wp2
    go_ret
    exact ⟨rfl, old_later2 hlow10.out hb hlow10.out.size⟩
  · have hrgW := hrg.out.later hF.low
    have hbAW := hbA.out.later hF.low
    have hslW := hslb.out.later hF.low
    have hlowW := old_later2 hlow.out hF.low hlow.out.size
    have hP := parse_any Ab L.length cb qb L WF hslW (by omega) hbys.out
    rw [hpe.out] at hP
    replace hrgW := Lib.hid hrgW
    replace hbAW := Lib.hid hbAW
    replace hslW := Lib.hid hslW
    replace hlowW := Lib.hid hlowW
    replace hF := Lib.hid hF
    go_wp2_with fail
    with_reducible refine hP.mono ?_
    clear hP
    rintro e w8 ⟨Ad, nd, cd, rfl, hrgd, _, hb⟩
    simp only [av]
    have hb9 := laterA (Below.refl w8.heap.size w8) (.cells #[.int .i64 a.d, .slice Ad nd cd, .bool a.mkd, .int .i64 a.e0, .int .i64 a.e1, .int .i64 a.e2] 25)
    have hbD := Blk.new w8 25 #[.int .i64 a.d, .slice Ad nd cd, .bool a.mkd, .int .i64 a.e0, .int .i64 a.e1, .int .i64 a.e2]
    have hbC9 := (hF.out.bx.later hb).later hb9
    have hbA9 := (hbAW.out.later hb).later hb9
    have rgA := (hrgW.out.later hb).later hb9
    have rgC := (hF.out.rg.later hb).later hb9
    have rgD := hrgd.later hb9
    have hlow9 := old_later2 (old_later2 hlowW.out hb hlowW.out.size) hb9 (old_later2 hlowW.out hb hlowW.out.size).size
    obtain ⟨W9, hW9⟩ : ∃ W, w8.alloc (.cells #[.int .i64 a.d, .slice Ad nd cd, .bool a.mkd, .int .i64 a.e0, .int .i64 a.e1, .int .i64 a.e2] 25) = W := ⟨_, rfl⟩
    rw [hW9] at hbD hbC9 hbA9 rgA rgC rgD hlow9 hb9
    have hS1 := fsame_any a a A1 Ac m1 c1 nc cc W9 rgA rgC (by omega)
    rw [(Frm.sm_iff a a).2 rfl] at hS1
    simp only [av] at hS1
    have p0 := hbA9.cell 0
    have p1 := hbA9.cell 1
    have p2 := hbA9.cell 2
    have p3 := hbA9.cell 3
    have p4 := hbA9.cell 4
    have p5 := hbA9.cell 5
    have q0 := hbC9.cell 0
    have q1 := hbC9.cell 1
    have q2 := hbC9.cell 2
    have q3 := hbC9.cell 3
    have q4 := hbC9.cell 4
    have q5 := hbC9.cell 5
    simp at p0 p1 p2 p3 p4 p5 q0 q1 q2 q3 q4 q5
    clear hb hrgd hbAW hrgW hslW hF
    replace hb9 := Lib.hid hb9
    replace hbD := Lib.hid hbD
    replace hbC9 := Lib.hid hbC9
    replace hbA9 := Lib.hid hbA9
    replace rgA := Lib.hid rgA
    replace rgC := Lib.hid rgC
    replace rgD := Lib.hid rgD
    replace hlow9 := Lib.hid hlow9
    go_wp2_with fail
    with_reducible refine hS1.mono ?_
    clear hS1 p0 p1 p2 p3 p4 p5 q0 q1 q2 q3 q4 q5
    rintro e w10 ⟨rfl, hb⟩
    have hbA10 := hbA9.out.later hb
    have hbD10 := hbD.out.later hb
    have hS2 := fsame_any a a A1 Ad m1 c1 nd cd w10 (rgA.out.later hb) (rgD.out.later hb) (by omega)
    rw [(Frm.sm_iff a a).2 rfl] at hS2
    simp only [av] at hS2
    have hlow10 := Lib.hid (old_later2 hlow9.out hb hlow9.out.size)
    have p0 := hbA10.cell 0
    have p1 := hbA10.cell 1
    have p2 := hbA10.cell 2
    have p3 := hbA10.cell 3
    have p4 := hbA10.cell 4
    have p5 := hbA10.cell 5
    have q0 := hbD10.cell 0
    have q1 := hbD10.cell 1
    have q2 := hbD10.cell 2
    have q3 := hbD10.cell 3
    have q4 := hbD10.cell 4
    have q5 := hbD10.cell 5
    simp at p0 p1 p2 p3 p4 p5 q0 q1 q2 q3 q4 q5
    replace hbA10 := Lib.hid hbA10
    replace hbD10 := Lib.hid hbD10
    clear hb
    go_wp2_with fail
    with_reducible refine hS2.mono ?_
    clear hS2
    rintro e w11 ⟨rfl, hb⟩
    go_wp2
    go_ret
    exact ⟨rfl, old_later2 hlow10.out hb hlow10.out.size⟩
  · have hrgW := hrg.out.later hF.low
    have hbAW := hbA.out.later hF.low
    have hslW := hslb.out.later hF.low
    have hlowW := old_later2 hlow.out hF.low hlow.out.size
    have hP := parse_any Ab L.length cb qb L WF hslW (by omega) hbys.out
    rw [hpe.out] at hP
    replace hrgW := Lib.hid hrgW
    replace hbAW := Lib.hid hbAW
    replace hslW := Lib.hid hslW
    replace hlowW := Lib.hid hlowW
    replace hF := Lib.hid hF
    go_wp2_with fail
    with_reducible refine hP.mono ?_
    clear hP
    rintro e w8 ⟨Ad, nd, cd, rfl, hrgd, _, hb⟩
    simp only [av]
    have hb9 := laterA (Below.refl w8.heap.size w8) (.cells #[.int .i64 a.d, .slice Ad nd cd, .bool a.mkd, .int .i64 a.e0, .int .i64 a.e1, .int .i64 a.e2] 25)
    have hbD := Blk.new w8 25 #[.int .i64 a.d, .slice Ad nd cd, .bool a.mkd, .int .i64 a.e0, .int .i64 a.e1, .int .i64 a.e2]
    have hbC9 := (hF.out.bx.later hb).later hb9
    have hbA9 := (hbAW.out.later hb).later hb9
    have rgA := (hrgW.out.later hb).later hb9
    have rgC := (hF.out.rg.later hb).later hb9
    have rgD := hrgd.later hb9
    have hlow9 := old_later2 (old_later2 hlowW.out hb hlowW.out.size) hb9 (old_later2 hlowW.out hb hlowW.out.size).size
    obtain ⟨W9, hW9⟩ : ∃ W, w8.alloc (.cells #[.int .i64 a.d, .slice Ad nd cd, .bool a.mkd, .int .i64 a.e0, .int .i64 a.e1, .int .i64 a.e2] 25) = W := ⟨_, rfl⟩
    rw [hW9] at hbD hbC9 hbA9 rgA rgC rgD hlow9 hb9
    have hS1 := fsame_any a a A1 Ac m1 c1 nc cc W9 rgA rgC (by omega)
    rw [(Frm.sm_iff a a).2 rfl] at hS1
    simp only [av] at hS1
    have p0 := hbA9.cell 0
    have p1 := hbA9.cell 1
    have p2 := hbA9.cell 2
    have p3 := hbA9.cell 3
    have p4 := hbA9.cell 4
    have p5 := hbA9.cell 5
    have q0 := hbC9.cell 0
    have q1 := hbC9.cell 1
    have q2 := hbC9.cell 2
    have q3 := hbC9.cell 3
    have q4 := hbC9.cell 4
    have q5 := hbC9.cell 5
    simp at p0 p1 p2 p3 p4 p5 q0 q1 q2 q3 q4 q5
    clear hb hrgd hbAW hrgW hslW hF
    replace hb9 := Lib.hid hb9
    replace hbD := Lib.hid hbD
    replace hbC9 := Lib.hid hbC9
    replace hbA9 := Lib.hid hbA9
    replace rgA := Lib.hid rgA
    replace rgC := Lib.hid rgC
    replace rgD := Lib.hid rgD
    replace hlow9 := Lib.hid hlow9
    go_wp2_with fail
    with_reducible refine hS1.mono ?_
    clear hS1 p0 p1 p2 p3 p4 p5 q0 q1 q2 q3 q4 q5
    rintro e w10 ⟨rfl, hb⟩
    have hbA10 := hbA9.out.later hb
    have hbD10 := hbD.out.later hb
    have hS2 := fsame_any a a A1 Ad m1 c1 nd cd w10 (rgA.out.later hb) (rgD.out.later hb) (by omega)
    rw [(Frm.sm_iff a a).2 rfl] at hS2
    simp only [av] at hS2
    have hlow10 := Lib.hid (old_later2 hlow9.out hb hlow9.out.size)
    have p0 := hbA10.cell 0
    have p1 := hbA10.cell 1
    have p2 := hbA10.cell 2
    have p3 := hbA10.cell 3
    have p4 := hbA10.cell 4
    have p5 := hbA10.cell 5
    have q0 := hbD10.cell 0
    have q1 := hbD10.cell 1
    have q2 := hbD10.cell 2
    have q3 := hbD10.cell 3
    have q4 := hbD10.cell 4
    have q5 := hbD10.cell 5
    simp at p0 p1 p2 p3 p4 p5 q0 q1 q2 q3 q4 q5
    replace hbA10 := Lib.hid hbA10
    replace hbD10 := Lib.hid hbD10
    clear hb
    go_wp2_with fail
    with_reducible refine hS2.mono ?_
    clear hS2
    rintro e w11 ⟨rfl, hb⟩
    go_wp2
    go_ret
    exact ⟨rfl, old_later2 hlow10.out hb hlow10.out.size⟩
  · have hrgW := hrg.out.later hF.low
    have hbAW := hbA.out.later hF.low
    have hslW := hslb.out.later hF.low
    have hlowW := old_later2 hlow.out hF.low hlow.out.size
    have hP := parse_any Ab L.length cb qb L WF hslW (by omega) hbys.out
    rw [hpe.out] at hP
    replace hrgW := Lib.hid hrgW
    replace hbAW := Lib.hid hbAW
    replace hslW := Lib.hid hslW
    replace hlowW := Lib.hid hlowW
    replace hF := Lib.hid hF
    go_wp2_with fail
    with_reducible refine hP.mono ?_
    clear hP
    rintro e w8 ⟨Ad, nd, cd, rfl, hrgd, _, hb⟩
    simp only [av]
    have hb9 := laterA (Below.refl w8.heap.size w8) (.cells #[.int .i64 a.d, .slice Ad nd cd, .bool a.mkd, .int .i64 a.e0, .int .i64 a.e1, .int .i64 a.e2] 25)
    have hbD := Blk.new w8 25 #[.int .i64 a.d, .slice Ad nd cd, .bool a.mkd, .int .i64 a.e0, .int .i64 a.e1, .int .i64 a.e2]
    have hbC9 := (hF.out.bx.later hb).later hb9
    have hbA9 := (hbAW.out.later hb).later hb9
    have rgA := (hrgW.out.later hb).later hb9
    have rgC := (hF.out.rg.later hb).later hb9
    have rgD := hrgd.later hb9
    have hlow9 := old_later2 (old_later2 hlowW.out hb hlowW.out.size) hb9 (old_later2 hlowW.out hb hlowW.out.size).size
    obtain ⟨W9, hW9⟩ : ∃ W, w8.alloc (.cells #[.int .i64 a.d, .slice Ad nd cd, .bool a.mkd, .int .i64 a.e0, .int .i64 a.e1, .int .i64 a.e2] 25) = W := ⟨_, rfl⟩
    rw [hW9] at hbD hbC9 hbA9 rgA rgC rgD hlow9 hb9
    have hS1 := fsame_any a a A1 Ac m1 c1 nc cc W9 rgA rgC (by omega)
    rw [(Frm.sm_iff a a).2 rfl] at hS1
    simp only [av] at hS1
    have p0 := hbA9.cell 0
    have p1 := hbA9.cell 1
    have p2 := hbA9.cell 2
    have p3 := hbA9.cell 3
    have p4 := hbA9.cell 4
    have p5 := hbA9.cell 5
    have q0 := hbC9.cell 0
    have q1 := hbC9.cell 1
    have q2 := hbC9.cell 2
    have q3 := hbC9.cell 3
    have q4 := hbC9.cell 4
    have q5 := hbC9.cell 5
    simp at p0 p1 p2 p3 p4 p5 q0 q1 q2 q3 q4 q5
    clear hb hrgd hbAW hrgW hslW hF
    replace hb9 := Lib.hid hb9
    replace hbD := Lib.hid hbD
    replace hbC9 := Lib.hid hbC9
    replace hbA9 := Lib.hid hbA9
    replace rgA := Lib.hid rgA
    replace rgC := Lib.hid rgC
    replace rgD := Lib.hid rgD
    replace hlow9 := Lib.hid hlow9
    go_wp2_with fail
    with_reducible refine hS1.mono ?_
    clear hS1 p0 p1 p2 p3 p4 p5 q0 q1 q2 q3 q4 q5
    rintro e w10 ⟨rfl, hb⟩
    have hbA10 := hbA9.out.later hb
    have hbD10 := hbD.out.later hb
    have hS2 := fsame_any a a A1 Ad m1 c1 nd cd w10 (rgA.out.later hb) (rgD.out.later hb) (by omega)
    rw [(Frm.sm_iff a a).2 rfl] at hS2
    simp only [av] at hS2
    have hlow10 := Lib.hid (old_later2 hlow9.out hb hlow9.out.size)
    have p0 := hbA10.cell 0
    have p1 := hbA10.cell 1
    have p2 := hbA10.cell 2
    have p3 := hbA10.cell 3
    have p4 := hbA10.cell 4
    have p5 := hbA10.cell 5
    have q0 := hbD10.cell 0
    have q1 := hbD10.cell 1
    have q2 := hbD10.cell 2
    have q3 := hbD10.cell 3
    have q4 := hbD10.cell 4
    have q5 := hbD10.cell 5
    simp at p0 p1 p2 p3 p4 p5 q0 q1 q2 q3 q4 q5
    replace hbA10 := Lib.hid hbA10
    replace hbD10 := Lib.hid hbD10
    clear hb
    go_wp2_with fail
    with_reducible refine hS2.mono ?_
    clear hS2
    rintro e w11 ⟨rfl, hb⟩
    go_wp2
    go_ret
    exact ⟨rfl, old_later2 hlow10.out hb hlow10.out.size⟩
  · have hrgW := hrg.out.later hF.low
    have hbAW := hbA.out.later hF.low
    have hslW := hslb.out.later hF.low
    have hlowW := old_later2 hlow.out hF.low hlow.out.size
    have hP := parse_any Ab L.length cb qb L WF hslW (by omega) hbys.out
    rw [hpe.out] at hP
    replace hrgW := Lib.hid hrgW
    replace hbAW := Lib.hid hbAW
    replace hslW := Lib.hid hslW
    replace hlowW := Lib.hid hlowW
    replace hF := Lib.hid hF
    go_wp2_with fail
    with_reducible refine hP.mono ?_
    clear hP
    rintro e w8 ⟨Ad, nd, cd, rfl, hrgd, _, hb⟩
    simp only [av]
    have hb9 := laterA (Below.refl w8.heap.size w8) (.cells #[.int .i64 a.d, .slice Ad nd cd, .bool a.mkd, .int .i64 a.e0, .int .i64 a.e1, .int .i64 a.e2] 25)
    have hbD := Blk.new w8 25 #[.int .i64 a.d, .slice Ad nd cd, .bool a.mkd, .int .i64 a.e0, .int .i64 a.e1, .int .i64 a.e2]
    have hbC9 := (hF.out.bx.later hb).later hb9
    have hbA9 := (hbAW.out.later hb).later hb9
    have rgA := (hrgW.out.later hb).later hb9
    have rgC := (hF.out.rg.later hb).later hb9
    have rgD := hrgd.later hb9
    have hlow9 := old_later2 (old_later2 hlowW.out hb hlowW.out.size) hb9 (old_later2 hlowW.out hb hlowW.out.size).size
    obtain ⟨W9, hW9⟩ : ∃ W, w8.alloc (.cells #[.int .i64 a.d, .slice Ad nd cd, .bool a.mkd, .int .i64 a.e0, .int .i64 a.e1, .int .i64 a.e2] 25) = W := ⟨_, rfl⟩
    rw [hW9] at hbD hbC9 hbA9 rgA rgC rgD hlow9 hb9
    have hS1 := fsame_any a a A1 Ac m1 c1 nc cc W9 rgA rgC (by omega)
    rw [(Frm.sm_iff a a).2 rfl] at hS1
    simp only [av] at hS1
    have p0 := hbA9.cell 0
    have p1 := hbA9.cell 1
    have p2 := hbA9.cell 2
    have p3 := hbA9.cell 3
    have p4 := hbA9.cell 4
    have p5 := hbA9.cell 5
    have q0 := hbC9.cell 0
    have q1 := hbC9.cell 1
    have q2 := hbC9.cell 2
    have q3 := hbC9.cell 3
    have q4 := hbC9.cell 4
    have q5 := hbC9.cell 5
    simp at p0 p1 p2 p3 p4 p5 q0 q1 q2 q3 q4 q5
    clear hb hrgd hbAW hrgW hslW hF
    replace hb9 := Lib.hid hb9
    replace hbD := Lib.hid hbD
    replace hbC9 := Lib.hid hbC9
    replace hbA9 := Lib.hid hbA9
    replace rgA := Lib.hid rgA
    replace rgC := Lib.hid rgC
    replace rgD := Lib.hid rgD
    replace hlow9 := Lib.hid hlow9
    go_wp2_with fail
    with_reducible refine hS1.mono ?_
    clear hS1 p0 p1 p2 p3 p4 p5 q0 q1 q2 q3 q4 q5
    rintro e w10 ⟨rfl, hb⟩
    have hbA10 := hbA9.out.later hb
    have hbD10 := hbD.out.later hb
    have hS2 := fsame_any a a A1 Ad m1 c1 nd cd w10 (rgA.out.later hb) (rgD.out.later hb) (by omega)
    rw [(Frm.sm_iff a a).2 rfl] at hS2
    simp only [av] at hS2
    have hlow10 := Lib.hid (old_later2 hlow9.out hb hlow9.out.size)
    have p0 := hbA10.cell 0
    have p1 := hbA10.cell 1
    have p2 := hbA10.cell 2
    have p3 := hbA10.cell 3
    have p4 := hbA10.cell 4
    have p5 := hbA10.cell 5
    have q0 := hbD10.cell 0
    have q1 := hbD10.cell 1
    have q2 := hbD10.cell 2
    have q3 := hbD10.cell 3
    have q4 := hbD10.cell 4
    have q5 := hbD10.cell 5
    simp at p0 p1 p2 p3 p4 p5 q0 q1 q2 q3 q4 q5
    replace hbA10 := Lib.hid hbA10
    replace hbD10 := Lib.hid hbD10
    clear hb
    go_wp2_with fail
    with_reducible refine hS2.mono ?_
    clear hS2
    rintro e w11 ⟨rfl, hb⟩
    go_wp2
    go_ret
    exact ⟨rfl, old_later2 hlow10.out hb hlow10.out.size⟩
end Go.Proofs.YtpagdcobhbkabaaDoor

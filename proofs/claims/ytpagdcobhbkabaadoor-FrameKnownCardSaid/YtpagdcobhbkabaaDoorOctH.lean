/-
  Layer 2: the program's reader: Num (its loop is a label that a goto jumps to).
-/
import Derived.Test.YtpagdcobhbkabaaDoorOctG
import Derived.ScopeJumps
import Derived.WalkMore
namespace Go.Proofs.YtpagdcobhbkabaaDoor
open Go.RowKit Go.Sort Go.Shelf Go.Deep Go.WideShapes

/-- By a goto to label 0: J0; to label 1: J1; otherwise as Q (after the kit's 'Exit.jump', for two labels). -/
def jump2 (J0 J1 : Act → World → Prop) (Q : Exit → Act → World → Prop) : Exit → Act → World → Prop
  | .goto l, a, w => (l = 0 ∧ J0 a w) ∨ (l = 1 ∧ J1 a w)
  | e, a, w => Q e a w
theorem jump2_ret {J0 J1 : Act → World → Prop} {Q : Exit → Act → World → Prop} {a : Act} {w : World} : jump2 J0 J1 Q .ret a w = Q .ret a w := rfl
theorem scope_two {P : Program} {a : Act} {w : World} {Q : Exit → Act → World → Prop} {c r0 r1 : Code} (J0 J1 : Act → World → Prop) (μ : Act → World → Nat) (h0 : findLabel c 0 = some r0) (h1 : findLabel c 1 = some r1)
    (first : c.wp P (jump2 J0 J1 Q) a w)
    (pass1 : ∀ a w, J1 a w → r1.wp P (jump2 J0 (fun a' w' => J1 a' w' ∧ μ a' w' < μ a w) Q) a w)
    (pass0 : ∀ a w, J0 a w → r0.wp P (jump2 (fun _ _ => False) (fun _ _ => False) Q) a w) : (Code.scope c).wp P Q a w := by
  intro b k cs
  have g0 : gotoIn 0 (.inScope c :: k) = some (.code r0 :: .inScope c :: k) := by simp [gotoIn, h0]
  have g1 : gotoIn 1 (.inScope c :: k) = some (.code r1 :: .inScope c :: k) := by simp [gotoIn, h1]
  have key0 : ∀ a w, J0 a w → ∃ e a' w', Q e a' w' ∧ Arrives P (lone (b.at a (.code r0 :: .inScope c :: k)) cs w) b k cs e a' w' := by
    intro a w hJ
    obtain ⟨e, a₁, w₁, hq, harr⟩ := pass0 a w hJ b (.inScope c :: k) cs
    cases e with
    | normal => exact ⟨.normal, a₁, w₁, hq, Steps.trans harr (.one step_inScope)⟩
    | exit id => exact ⟨.exit id, a₁, w₁, hq, fun k' hk => harr k' (by simp [exitTo, hk])⟩
    | goto l' => rcases hq with ⟨_, h⟩ | ⟨_, h⟩ <;> exact h.elim
    | ret => exact ⟨_, a₁, w₁, hq, harr⟩
    | panic ch => exact ⟨_, a₁, w₁, hq, harr⟩
    | outgrown => exact ⟨_, a₁, w₁, hq, harr⟩
  have key1 : ∀ n a w, μ a w = n → J1 a w → ∃ e a' w', Q e a' w' ∧ Arrives P (lone (b.at a (.code r1 :: .inScope c :: k)) cs w) b k cs e a' w' := by
    intro n
    induction n using Nat.strongRecOn with
    | _ n ih =>
      intro a w hn hJ
      obtain ⟨e, a₁, w₁, hq, harr⟩ := pass1 a w hJ b (.inScope c :: k) cs
      cases e with
      | normal => exact ⟨.normal, a₁, w₁, hq, Steps.trans harr (.one step_inScope)⟩
      | exit id => exact ⟨.exit id, a₁, w₁, hq, fun k' hk => harr k' (by simp [exitTo, hk])⟩
      | goto l' =>
        rcases hq with ⟨rfl, hJ'⟩ | ⟨rfl, hJ', hlt⟩
        · obtain ⟨e₂, a₂, w₂, hq₂, harr₂⟩ := key0 a₁ w₁ hJ'
          exact ⟨e₂, a₂, w₂, hq₂, .of_steps (harr _ g0) harr₂⟩
        · obtain ⟨e₂, a₂, w₂, hq₂, harr₂⟩ := ih _ (by omega) a₁ w₁ rfl hJ'
          exact ⟨e₂, a₂, w₂, hq₂, .of_steps (harr _ g1) harr₂⟩
      | ret => exact ⟨_, a₁, w₁, hq, harr⟩
      | panic ch => exact ⟨_, a₁, w₁, hq, harr⟩
      | outgrown => exact ⟨_, a₁, w₁, hq, harr⟩
  obtain ⟨e, a₁, w₁, hq, harr⟩ := first b (.inScope c :: k) cs
  cases e with
  | normal => exact ⟨.normal, a₁, w₁, hq, .head step_scope (Steps.trans harr (.one step_inScope))⟩
  | exit id => exact ⟨.exit id, a₁, w₁, hq, fun k' hk => .head step_scope (harr k' (by simp [exitTo, hk]))⟩
  | goto l' =>
    rcases hq with ⟨rfl, hJ'⟩ | ⟨rfl, hJ'⟩
    · obtain ⟨e₂, a₂, w₂, hq₂, harr₂⟩ := key0 a₁ w₁ hJ'
      exact ⟨e₂, a₂, w₂, hq₂, .of_steps (.head step_scope (harr _ g0)) harr₂⟩
    · obtain ⟨e₂, a₂, w₂, hq₂, harr₂⟩ := key1 _ a₁ w₁ rfl hJ'
      exact ⟨e₂, a₂, w₂, hq₂, .of_steps (.head step_scope (harr _ g1)) harr₂⟩
  | ret => exact ⟨_, a₁, w₁, hq, .of_steps (.one step_scope) harr⟩
  | panic ch => exact ⟨_, a₁, w₁, hq, .of_steps (.one step_scope) harr⟩
  | outgrown => exact ⟨_, a₁, w₁, hq, .of_steps (.one step_scope) harr⟩

/-- Whatever the other slots hold: at the label 'short'. -/
def At0 (p : Nat) (a : Act) : Prop := ∃ f : Nat → Value, a = { tmps := #[.pointer (some ⟨p, 0, none⟩), f 1, f 2, f 3, f 4, f 5, f 6, f 7, f 8, f 9, f 10, f 11, f 12, f 13, f 14, f 15, f 16, f 17, f 18, f 19, f 20, f 21, f 22, f 23, f 24, f 25, f 26, f 27, f 28, f 29, f 30, f 31, f 32, f 33, f 34, f 35, f 36, f 37, f 38, f 39, f 40, f 41, f 42, f 43, f 44, f 45, f 46, f 47, f 48, f 49, f 50, f 51, f 52, f 53, f 54, f 55, f 56, f 57, f 58, f 59, f 60, f 61, f 62, f 63, f 64, f 65, f 66, f 67, f 68, f 69, f 70, f 71, f 72, f 73, f 74, f 75, f 76, f 77], defers := [] }
/-- At the label 'next': the number so far, which byte was the last one, how many there are. -/
def At1 (p : Nat) (v i z : Int) (a : Act) : Prop := ∃ f : Nat → Value, a = { tmps := #[.pointer (some ⟨p, 0, none⟩), f 1, f 2, .int .i64 v, .int .i64 i, .int .i64 z, f 6, f 7, f 8, f 9, f 10, f 11, f 12, f 13, f 14, f 15, f 16, f 17, f 18, f 19, f 20, f 21, f 22, f 23, f 24, f 25, f 26, f 27, f 28, f 29, f 30, f 31, f 32, f 33, f 34, f 35, f 36, f 37, f 38, f 39, f 40, f 41, f 42, f 43, f 44, f 45, f 46, f 47, f 48, f 49, f 50, f 51, f 52, f 53, f 54, f 55, f 56, f 57, f 58, f 59, f 60, f 61, f 62, f 63, f 64, f 65, f 66, f 67, f 68, f 69, f 70, f 71, f 72, f 73, f 74, f 75, f 76, f 77], defers := [] }
theorem at0_mk {p : Nat} {a : Act} (h : a = { tmps := #[.pointer (some ⟨p, 0, none⟩), a.tmps.getD 1 undef, a.tmps.getD 2 undef, a.tmps.getD 3 undef, a.tmps.getD 4 undef, a.tmps.getD 5 undef, a.tmps.getD 6 undef, a.tmps.getD 7 undef, a.tmps.getD 8 undef, a.tmps.getD 9 undef, a.tmps.getD 10 undef, a.tmps.getD 11 undef, a.tmps.getD 12 undef, a.tmps.getD 13 undef, a.tmps.getD 14 undef, a.tmps.getD 15 undef, a.tmps.getD 16 undef, a.tmps.getD 17 undef, a.tmps.getD 18 undef, a.tmps.getD 19 undef, a.tmps.getD 20 undef, a.tmps.getD 21 undef, a.tmps.getD 22 undef, a.tmps.getD 23 undef, a.tmps.getD 24 undef, a.tmps.getD 25 undef, a.tmps.getD 26 undef, a.tmps.getD 27 undef, a.tmps.getD 28 undef, a.tmps.getD 29 undef, a.tmps.getD 30 undef, a.tmps.getD 31 undef, a.tmps.getD 32 undef, a.tmps.getD 33 undef, a.tmps.getD 34 undef, a.tmps.getD 35 undef, a.tmps.getD 36 undef, a.tmps.getD 37 undef, a.tmps.getD 38 undef, a.tmps.getD 39 undef, a.tmps.getD 40 undef, a.tmps.getD 41 undef, a.tmps.getD 42 undef, a.tmps.getD 43 undef, a.tmps.getD 44 undef, a.tmps.getD 45 undef, a.tmps.getD 46 undef, a.tmps.getD 47 undef, a.tmps.getD 48 undef, a.tmps.getD 49 undef, a.tmps.getD 50 undef, a.tmps.getD 51 undef, a.tmps.getD 52 undef, a.tmps.getD 53 undef, a.tmps.getD 54 undef, a.tmps.getD 55 undef, a.tmps.getD 56 undef, a.tmps.getD 57 undef, a.tmps.getD 58 undef, a.tmps.getD 59 undef, a.tmps.getD 60 undef, a.tmps.getD 61 undef, a.tmps.getD 62 undef, a.tmps.getD 63 undef, a.tmps.getD 64 undef, a.tmps.getD 65 undef, a.tmps.getD 66 undef, a.tmps.getD 67 undef, a.tmps.getD 68 undef, a.tmps.getD 69 undef, a.tmps.getD 70 undef, a.tmps.getD 71 undef, a.tmps.getD 72 undef, a.tmps.getD 73 undef, a.tmps.getD 74 undef, a.tmps.getD 75 undef, a.tmps.getD 76 undef, a.tmps.getD 77 undef], defers := [] }) : At0 p a := ⟨fun k => a.tmps.getD k undef, h⟩
theorem at1_mk {p : Nat} {v i z : Int} {a : Act} (h : a = { tmps := #[.pointer (some ⟨p, 0, none⟩), a.tmps.getD 1 undef, a.tmps.getD 2 undef, .int .i64 v, .int .i64 i, .int .i64 z, a.tmps.getD 6 undef, a.tmps.getD 7 undef, a.tmps.getD 8 undef, a.tmps.getD 9 undef, a.tmps.getD 10 undef, a.tmps.getD 11 undef, a.tmps.getD 12 undef, a.tmps.getD 13 undef, a.tmps.getD 14 undef, a.tmps.getD 15 undef, a.tmps.getD 16 undef, a.tmps.getD 17 undef, a.tmps.getD 18 undef, a.tmps.getD 19 undef, a.tmps.getD 20 undef, a.tmps.getD 21 undef, a.tmps.getD 22 undef, a.tmps.getD 23 undef, a.tmps.getD 24 undef, a.tmps.getD 25 undef, a.tmps.getD 26 undef, a.tmps.getD 27 undef, a.tmps.getD 28 undef, a.tmps.getD 29 undef, a.tmps.getD 30 undef, a.tmps.getD 31 undef, a.tmps.getD 32 undef, a.tmps.getD 33 undef, a.tmps.getD 34 undef, a.tmps.getD 35 undef, a.tmps.getD 36 undef, a.tmps.getD 37 undef, a.tmps.getD 38 undef, a.tmps.getD 39 undef, a.tmps.getD 40 undef, a.tmps.getD 41 undef, a.tmps.getD 42 undef, a.tmps.getD 43 undef, a.tmps.getD 44 undef, a.tmps.getD 45 undef, a.tmps.getD 46 undef, a.tmps.getD 47 undef, a.tmps.getD 48 undef, a.tmps.getD 49 undef, a.tmps.getD 50 undef, a.tmps.getD 51 undef, a.tmps.getD 52 undef, a.tmps.getD 53 undef, a.tmps.getD 54 undef, a.tmps.getD 55 undef, a.tmps.getD 56 undef, a.tmps.getD 57 undef, a.tmps.getD 58 undef, a.tmps.getD 59 undef, a.tmps.getD 60 undef, a.tmps.getD 61 undef, a.tmps.getD 62 undef, a.tmps.getD 63 undef, a.tmps.getD 64 undef, a.tmps.getD 65 undef, a.tmps.getD 66 undef, a.tmps.getD 67 undef, a.tmps.getD 68 undef, a.tmps.getD 69 undef, a.tmps.getD 70 undef, a.tmps.getD 71 undef, a.tmps.getD 72 undef, a.tmps.getD 73 undef, a.tmps.getD 74 undef, a.tmps.getD 75 undef, a.tmps.getD 76 undef, a.tmps.getD 77 undef], defers := [] }) : At1 p v i z a := ⟨fun k => a.tmps.getD k undef, h⟩

theorem bits_or_i64_nat (a b : Nat) (ha : a < 9223372036854775808) (hb : b < 9223372036854775808) : bits .or .i64 (a : Int) (b : Int) = ((a ||| b : Nat) : Int) := by
  have hx : a ||| b < 2 ^ 63 := Nat.or_lt_two_pow (by omega) (by omega)
  have h1 : (BitVec.ofInt 64 (a : Int)).toNat = a := by
    rw [BitVec.ofInt_natCast, BitVec.toNat_ofNat]; exact Nat.mod_eq_of_lt (by omega)
  have h2 : (BitVec.ofInt 64 (b : Int)).toNat = b := by
    rw [BitVec.ofInt_natCast, BitVec.toNat_ofNat]; exact Nat.mod_eq_of_lt (by omega)
  show IntKind.i64.wrap ((BitVec.ofInt 64 (a : Int) ||| BitVec.ofInt 64 (b : Int)).toNat : Int) = _
  rw [BitVec.toNat_or, h1, h2, IntKind.wrap_i64]
  omega
theorem or_shift (v x : Int) (h0 : 0 ≤ v) (h1 : v < 36028797018963968) (h2 : 0 ≤ x) (h3 : x < 256) : bits .or .i64 (v * 256) x = v * 256 + x := by
  obtain ⟨a, rfl⟩ : ∃ a : Nat, v = a := ⟨v.toNat, by omega⟩
  obtain ⟨b, rfl⟩ : ∃ b : Nat, x = b := ⟨x.toNat, by omega⟩
  have e : ((a : Int) * 256) = ((2 ^ 8 * a : Nat) : Int) := by omega
  rw [e, bits_or_i64_nat _ _ (by omega) (by omega), ← Nat.two_pow_add_eq_or_of_lt (by omega)]
  omega

theorem pw_wrap (b : Int) (h0 : 0 ≤ b) (h1 : b < 256) : wrap64 (2 ^ (b / 64).toNat) = (Oct.pw b : Int) := by
  unfold Oct.pw
  by_cases a : b < 64
  · rw [if_pos a, show b / 64 = 0 by omega]; simp [wrap64]
  rw [if_neg a]
  by_cases a : b < 128
  · rw [if_pos a, show b / 64 = 1 by omega]; simp [wrap64]
  rw [if_neg a]
  by_cases a : b < 192
  · rw [if_pos a, show b / 64 = 2 by omega]; simp [wrap64]
  rw [if_neg a, show b / 64 = 3 by omega]; simp [wrap64]
theorem get_one {b : Int} (t : List Int) (h : 0 < t.length) : (b :: t)[1]? = some (t.getD 0 0) := by
  cases t with
  | nil => simp at h
  | cons x t => rfl

theorem next_byte (a : Int) {b : Int} {t : List Int} (h : Oct.Bys (b :: t)) {i : Nat} (hi : i < t.length) (h0 : 0 ≤ Oct.val a (t.take i)) (h1 : Oct.val a (t.take i) < 36028797018963968) :
    ∃ x, (b :: t)[i + 1]? = some x ∧ bits .or .i64 (Oct.val a (t.take i) * 256) x = Oct.val a (t.take (i + 1)) ∧ 0 ≤ x ∧ x < 256 := by
  have hx := h.tail.at hi
  refine ⟨t[i], by simp [hi], ?_, hx.1, hx.2⟩
  rw [or_shift _ _ h0 h1 hx.1 hx.2, List.take_add_one, List.getElem?_eq_getElem hi, Oct.val_app]
  rfl
theorem val_lt_pow {a : Int} {l : List Int} (ha : 0 ≤ a) (ha1 : a < 64) (h : Oct.Bys l) : 0 ≤ Oct.val a l ∧ Oct.val a l < 64 * 256 ^ l.length := by
  rw [Oct.val_split]
  have := Oct.val_lt h
  have hp := Oct.pow_pos l.length
  have h1 : 0 ≤ a * 256 ^ l.length := Int.mul_nonneg ha (by omega)
  have h2 : a * 256 ^ l.length ≤ 63 * 256 ^ l.length := Int.mul_le_mul_of_nonneg_right (by omega) (by omega)
  omega

theorem pow_small : ∀ L : Nat, L ≤ 6 → (256 : Int) ^ L ≤ 281474976710656
  | 0, _ => by simp
  | 1, _ => by simp
  | 2, _ => by simp
  | 3, _ => by simp
  | 4, _ => by simp
  | 5, _ => by simp
  | 6, _ => by simp
  | L + 7, h => by omega
theorem val_small {a : Int} {t : List Int} (ha : 0 ≤ a) (ha1 : a < 64) (h : Oct.Bys t) {i : Nat} (hi : i ≤ 6) : 0 ≤ Oct.val a (t.take i) ∧ Oct.val a (t.take i) < 36028797018963968 := by
  have h1 := val_lt_pow ha ha1 (h.take i)
  have h2 := pow_small (t.take i).length (by rw [List.length_take]; omega)
  omega

set_option maxHeartbeats 2000000 in
set_option maxRecDepth 100000 in
theorem num_some (p q off n c : Nat) (b : Int) (t : List Int) (w : World) (hx : Blk w p 84 #[.slice (some ⟨q, off, none⟩) n c, .bool true, .int .i64 0]) (hn : t.length + 1 = n) (_hnc : n ≤ c) (hs : n ≤ 10000) (_hpq : p ≠ q)
    (hc : ∀ k x, (b :: t)[k]? = some x → w.cell? ⟨q, off + k, none⟩ = some (.int .u8 x)) (hby : Oct.Bys (b :: t)) (A2 : Option Addr)
    (hsl : Oct.pw b ≤ n → ∀ W : World, (Instr.slice 27 (.slice (some ⟨q, off, none⟩) n c) (some (.int .i64 (Oct.pw b : Int))) none none).run Tryd.prog W = .ok (.slice A2 (n - Oct.pw b) (c - Oct.pw b)) W) :
    Calls Tryd.prog 47 #[.pointer (some ⟨p, 0, none⟩)] w fun e w' =>
      (n < Oct.pw b → e = .returned (.int .i64 0) ∧ w' = w.setCell ⟨p, 2, none⟩ (.int .i64 3)) ∧
      (¬ n < Oct.pw b → 9007199254740991 < Oct.val (b % 64) (t.take (Oct.pw b - 1)) → e = .returned (.int .i64 0) ∧ w' = w.setCell ⟨p, 2, none⟩ (.int .i64 9)) ∧
      (¬ n < Oct.pw b → ¬ 9007199254740991 < Oct.val (b % 64) (t.take (Oct.pw b - 1)) → e = .returned (.int .i64 (Oct.val (b % 64) (t.take (Oct.pw b - 1)))) ∧ w' = w.setCell ⟨p, 0, none⟩ (.slice A2 (n - Oct.pw b) (c - Oct.pw b))) := by
  have hno := none_any p _ _ _ w hx
  have y0 := hx.cell 0
  have y1 := hx.cell 2
  simp at y0 y1
  have f0 := hx.frozen 0
  have f2 := hx.frozen 2
  have b0 := hc 0 b rfl
  rw [Nat.add_zero] at b0
  have hb := hby.head
  obtain ⟨S, hS⟩ : ∃ S, Oct.pw b = S := ⟨_, rfl⟩
  rw [hS] at hsl ⊢
  have hpw : wrap64 (2 ^ (b / 64).toNat) = (S : Int) := by rw [← hS]; exact pw_wrap b hb.1 hb.2
  replace hx := Lib.hid hx
  replace hc := Lib.hid hc
  replace hby := Lib.hid hby
  replace hS := Lib.hid hS
  replace hsl := Lib.hid hsl
  go_enter Tryd.func47, Tryd.ntmps47
  go_wp2
  refine scope_two (fun a w' => At0 p a ∧ w' = w ∧ n < S) (fun a w' => ∃ i : Nat, At1 p (Oct.val (b % 64) (t.take i)) i S a ∧ w' = w ∧ 1 ≤ i ∧ i < S ∧ S ≤ n) (fun a _ => S - (intOf (a.tmps.getD 4 undef)).toNat) rfl rfl ?_ ?_ ?_
  · go_wp2_with fail
    refine hno.mono ?_
    rintro e w1 ⟨rfl, rfl⟩
    by_cases hlt : n < S
    · have hlt' : (n : Int) < (S : Int) := by omega
      go_wp2_with fail
      go_step3
      exact .inl ⟨rfl, at0_mk rfl, rfl, hlt⟩
    · have hlt' : ¬ (n : Int) < (S : Int) := by omega
      go_wp2_with fail
      go_step3
      by_cases hS1 : 1 < S
      · have hS1' : (1 : Int) < (S : Int) := by omega
        obtain ⟨x, hx1, e1, x0, x1⟩ := next_byte (b % 64) hby.out (i := 0) (by omega) (by simp only [List.take_zero, Oct.val_nil]; omega) (by simp only [List.take_zero, Oct.val_nil]; omega)
        have b1 := hc.out 1 x hx1
        have hwx : wrap64 x = x := by unfold wrap64; omega
        rw [List.take_zero, Oct.val_nil] at e1
        replace e1 := Lib.hid e1
        go_wp2_with fail
        go_step3
        refine .inr ⟨rfl, 1, ?_, rfl, by omega, by omega, by omega⟩
        rw [← e1.out, ← hpw]
        exact at1_mk rfl
      · have hS1' : ¬ (1 : Int) < (S : Int) := by omega
        replace hsl := hsl.out (by omega)
        go_wp2_with fail
        rw [jump2_ret]
        go_ret
        have hS0 : S = 1 := by
          have := hS.out
          unfold Oct.pw at this
          (repeat' split at this) <;> omega
        subst hS0
        refine ⟨fun h => by omega, fun _ h => ?_, fun _ _ => ⟨rfl, rfl⟩⟩
        exfalso
        simp only [Nat.sub_self, List.take_zero, Oct.val_nil] at h
        omega
  · rintro a w1 ⟨i, ⟨f, rfl⟩, rfl, h1, h2, h3⟩
    have hS8 : S ≤ 8 := by
      have := hS.out
      unfold Oct.pw at this
      (repeat' split at this) <;> omega
    have hwi : wrap64 ((i : Int) + 1) = (i : Int) + 1 := by unfold wrap64; omega
    by_cases hlt : i + 1 < S
    · have hlt' : (i : Int) + 1 < (S : Int) := by omega
      have hvb := val_small (a := b % 64) (t := t) (by omega) (by omega) hby.out.tail (i := i) (by omega)
      obtain ⟨x, hx1, e1, x0, x1⟩ := next_byte (b % 64) hby.out (i := i) (by omega) hvb.1 hvb.2
      have b1 := hc.out (i + 1) x hx1
      have hwx : wrap64 x = x := by unfold wrap64; omega
      obtain ⟨V, hV⟩ : ∃ V, Oct.val (b % 64) (t.take i) = V := ⟨_, rfl⟩
      rw [hV] at e1 hvb ⊢
      obtain ⟨hv0, hv1⟩ := hvb
      have hwv : wrap64 (V * 256) = V * 256 := by unfold wrap64; omega
      replace e1 := Lib.hid e1
      replace hV := Lib.hid hV
      go_wp2_with fail
      go_step3
      have hcast : ((i + 1 : Nat) : Int) = (i : Int) + 1 := by omega
      refine .inr ⟨rfl, ⟨i + 1, ?_, rfl, by omega, hlt, h3⟩, ?_⟩
      · rw [hcast, ← e1.out]
        exact at1_mk rfl
      · show S - (intOf (.int .i64 ((i : Int) + 1))).toNat < S - (intOf (.int .i64 (i : Int))).toNat
        simp only [intOf]
        omega
    · have hlt' : ¬ (i : Int) + 1 < (S : Int) := by omega
      have hiS : S - 1 = i := by omega
      replace hsl := hsl.out h3
      replace hiS := Lib.hid hiS
      obtain ⟨V, hV⟩ : ∃ V, Oct.val (b % 64) (t.take i) = V := ⟨_, rfl⟩
      rw [hV]
      replace hV := Lib.hid hV
      by_cases hm : 9007199254740991 < V
      · go_wp2_with fail
        rw [jump2_ret]
        go_ret
        refine ⟨fun hh => by omega, fun _ _ => ⟨rfl, rfl⟩, fun _ h => ?_⟩
        rw [hiS.out, hV.out] at h
        exact absurd hm h
      · go_wp2_with fail
        rw [jump2_ret]
        go_ret
        refine ⟨fun hh => by omega, fun _ h => ?_, fun _ _ => ?_⟩
        · rw [hiS.out, hV.out] at h
          omega
        · rw [hiS.out, hV.out]
          exact ⟨rfl, rfl⟩
  · rintro a w1 ⟨⟨f, rfl⟩, rfl, hlt⟩
    go_wp2_with fail
    rw [jump2_ret]
    go_ret
    exact ⟨fun _ => ⟨rfl, rfl⟩, fun h => absurd hlt h, fun h => absurd hlt h⟩

theorem onum_any (p q : Nat) (s : Oct.St) (w : World) (h : Rdr w p q s) (hpq : p ≠ q) :
    Calls Tryd.prog 47 #[.pointer (some ⟨p, 0, none⟩)] w fun e w' => e = .returned (.int .i64 (Oct.num s).1) ∧ Rdr w' p q (Oct.num s).2 ∧ Only (· = p) w w' := by
  have h0 := h
  obtain ⟨A, n, c, hx, hsl, hby, hs⟩ := h
  obtain ⟨l, e⟩ := s
  have hno := none_any p _ _ _ w hx
  have y0 := hx.cell 0
  have y2 := hx.cell 2
  simp at y0 y2
  have f2 := hx.frozen 2
  have hn := hsl.1
  have hsame : ∀ (x : Int), Rdr (w.setCell ⟨p, 2, none⟩ (.int .i64 x)) p q ⟨l, x⟩ := fun x =>
    ⟨A, n, c, hx.set_ 2 _, hsl.far (by simp [World.setCell]) (fun _ => Below.heap_setCell w ⟨p, 2, none⟩ _ q (Ne.symm hpq)), hby, hs⟩
  have honly : ∀ (i : Nat) (u : Value), Only (· = p) w (w.setCell ⟨p, i, none⟩ u) := fun i u => Only.set (F := (· = p)) (Only.refl _ w) (p := ⟨p, i, none⟩) rfl u
  have hon := Only.refl (· = p) w
  unfold Oct.num
  simp only at hn y2 hby hsl hno ⊢
  by_cases e0 : e = 0
  · subst e0
    rw [if_pos rfl]
    cases l with
    | nil =>
      have hn0 : n = 0 := hn.symm
      subst hn0
      replace hx := Lib.hid hx
      replace hsl := Lib.hid hsl
      replace hsame := Lib.hid hsame
      replace h0 := Lib.hid h0
      replace honly := Lib.hid honly
      replace hon := Lib.hid hon
      go_enter Tryd.func47, Tryd.ntmps47
      go_wp2
      refine scope_two (fun a w' => At0 p a ∧ w' = w) (fun _ _ => False) (fun _ _ => 0) rfl rfl ?_ ?_ ?_
      · go_wp2_with fail
        refine hno.mono ?_
        rintro e w1 ⟨rfl, rfl⟩
        go_wp2_with fail
        go_step3
        exact .inl ⟨rfl, at0_mk rfl, rfl⟩
      · intro a w h
        exact h.elim
      · rintro a w1 ⟨⟨f, rfl⟩, rfl⟩
        go_wp2_with fail
        rw [jump2_ret]
        go_ret
        exact ⟨rfl, hsame.out 3, honly.out 2 _⟩
    | cons b t =>
      obtain ⟨_, hnc, hcm, ⟨_, hn0, _⟩ | ⟨off, rfl, hq, hcell⟩⟩ := id hsl
      · rw [hn0] at hn; simp at hn
      · have hget : ∀ k x, (b :: t)[k]? = some x → w.cell? ⟨q, off + k, none⟩ = some (.int .u8 x) := fun k x hk => by
          obtain ⟨hk1, hk2⟩ := List.getElem?_eq_some_iff.1 hk
          rw [← hk2]; exact hcell k hk1
        have hn' : t.length + 1 = n := hn
        by_cases hS : Oct.pw b ≤ n
        · obtain ⟨A2, r2, s2⟩ := slice_from hsl hS
          refine (num_some p q off n c b t w hx hn' hnc hs hpq hget hby A2 (fun _ => r2)).mono ?_
          rintro e w' ⟨_, h2, h3⟩
          rw [Oct.numL_cons, if_neg (by omega)]
          by_cases hm : 9007199254740991 < Oct.val (b % 64) (t.take (Oct.pw b - 1))
          · rw [if_pos hm]
            obtain ⟨rfl, rfl⟩ := h2 (by omega) hm
            exact ⟨rfl, hsame 9, honly 2 _⟩
          · rw [if_neg hm]
            obtain ⟨rfl, rfl⟩ := h3 (by omega) hm
            refine ⟨rfl, ⟨A2, n - Oct.pw b, c - Oct.pw b, hx.set_ 0 _, ?_, hby.tail.drop _, by omega⟩, honly 0 _⟩
            have hp0 : 1 ≤ Oct.pw b := by unfold Oct.pw; (repeat' split) <;> omega
            have hd : (b :: t).drop (Oct.pw b) = t.drop (Oct.pw b - 1) := by
              rw [show Oct.pw b = (Oct.pw b - 1) + 1 by omega, List.drop_succ_cons]
              rfl
            rw [hd] at s2
            exact s2.far (by simp [World.setCell]) (fun _ => Below.heap_setCell w ⟨p, 0, none⟩ _ q (Ne.symm hpq))
        · refine (num_some p q off n c b t w hx hn' hnc hs hpq hget hby none (fun hh => absurd hh hS)).mono ?_
          rintro e w' ⟨h1, _⟩
          rw [Oct.numL_cons, if_pos (by omega)]
          obtain ⟨rfl, rfl⟩ := h1 (by omega)
          exact ⟨rfl, hsame 3, honly 2 _⟩
  · rw [if_neg e0]
    replace hx := Lib.hid hx
    replace hsl := Lib.hid hsl
    replace hsame := Lib.hid hsame
    replace h0 := Lib.hid h0
    replace honly := Lib.hid honly
    replace hon := Lib.hid hon
    go_enter Tryd.func47, Tryd.ntmps47
    go_wp2
    refine scope_two (fun _ _ => False) (fun _ _ => False) (fun _ _ => 0) rfl rfl ?_ ?_ ?_
    · go_wp2_with fail
      refine hno.mono ?_
      rintro e w1 ⟨rfl, rfl⟩
      go_wp2_with fail
      rw [jump2_ret]
      go_ret
      exact ⟨rfl, h0.out, hon.out⟩
    · intro a w h
      exact h.elim
    · intro a w h
      exact h.elim
end Go.Proofs.YtpagdcobhbkabaaDoor

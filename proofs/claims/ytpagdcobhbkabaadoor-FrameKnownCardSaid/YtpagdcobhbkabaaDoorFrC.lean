/-
  Layer 5: a scope of three labels (after the kit's law for one).
-/
import Derived.Test.YtpagdcobhbkabaaDoorFrB
import Derived.ScopeJumps
import Derived.WalkMore
namespace Go.Proofs.YtpagdcobhbkabaaDoor
open Go.RowKit Go.Sort Go.Shelf Go.Deep Go.WideShapes

/-- By a goto to a label: J of it; otherwise as Q. -/
def jumpN (J : Nat → Act → World → Prop) (Q : Exit → Act → World → Prop) : Exit → Act → World → Prop
  | .goto l, a, w => J l a w
  | e, a, w => Q e a w
theorem jumpN_ret {J : Nat → Act → World → Prop} {Q : Exit → Act → World → Prop} {a : Act} {w : World} : jumpN J Q .ret a w = Q .ret a w := rfl
theorem scope_many {P : Program} {a : Act} {w : World} {Q : Exit → Act → World → Prop} {c : Code} (J : Nat → Act → World → Prop) (μ : Nat → Act → World → Nat) (r : Nat → Code) (hr : ∀ l a w, J l a w → findLabel c l = some (r l))
    (first : c.wp P (jumpN J Q) a w)
    (pass : ∀ l a w, J l a w → (r l).wp P (jumpN (fun l' a' w' => J l' a' w' ∧ μ l' a' w' < μ l a w) Q) a w) : (Code.scope c).wp P Q a w := by
  intro b k cs
  have g : ∀ l a w, J l a w → gotoIn l (.inScope c :: k) = some (.code (r l) :: .inScope c :: k) := fun l a w h => by simp [gotoIn, hr l a w h]
  have key : ∀ n l a w, μ l a w = n → J l a w → ∃ e a' w', Q e a' w' ∧ Arrives P (lone (b.at a (.code (r l) :: .inScope c :: k)) cs w) b k cs e a' w' := by
    intro n
    induction n using Nat.strongRecOn with
    | _ n ih =>
      intro l a w hn hJ
      obtain ⟨e, a₁, w₁, hq, harr⟩ := pass l a w hJ b (.inScope c :: k) cs
      cases e with
      | normal => exact ⟨.normal, a₁, w₁, hq, Steps.trans harr (.one step_inScope)⟩
      | exit id => exact ⟨.exit id, a₁, w₁, hq, fun k' hk => harr k' (by simp [exitTo, hk])⟩
      | goto l' =>
        obtain ⟨hJ', hlt⟩ := hq
        obtain ⟨e₂, a₂, w₂, hq₂, harr₂⟩ := ih _ (by omega) l' a₁ w₁ rfl hJ'
        exact ⟨e₂, a₂, w₂, hq₂, .of_steps (harr _ (g l' a₁ w₁ hJ')) harr₂⟩
      | ret => exact ⟨_, a₁, w₁, hq, harr⟩
      | panic ch => exact ⟨_, a₁, w₁, hq, harr⟩
      | outgrown => exact ⟨_, a₁, w₁, hq, harr⟩
  obtain ⟨e, a₁, w₁, hq, harr⟩ := first b (.inScope c :: k) cs
  cases e with
  | normal => exact ⟨.normal, a₁, w₁, hq, .head step_scope (Steps.trans harr (.one step_inScope))⟩
  | exit id => exact ⟨.exit id, a₁, w₁, hq, fun k' hk => .head step_scope (harr k' (by simp [exitTo, hk]))⟩
  | goto l' =>
    obtain ⟨e₂, a₂, w₂, hq₂, harr₂⟩ := key _ l' a₁ w₁ rfl hq
    exact ⟨e₂, a₂, w₂, hq₂, .of_steps (.head step_scope (harr _ (g l' a₁ w₁ hq))) harr₂⟩
  | ret => exact ⟨_, a₁, w₁, hq, .of_steps (.one step_scope) harr⟩
  | panic ch => exact ⟨_, a₁, w₁, hq, .of_steps (.one step_scope) harr⟩
  | outgrown => exact ⟨_, a₁, w₁, hq, .of_steps (.one step_scope) harr⟩

/-- One of three. -/
def of3 (J0 J1 J2 : Act → World → Prop) : Nat → Act → World → Prop
  | 0 => J0
  | 1 => J1
  | 2 => J2
  | _ => fun _ _ => False
theorem scope_three {P : Program} {a : Act} {w : World} {Q : Exit → Act → World → Prop} {c r0 r1 r2 : Code} (J0 J1 J2 : Act → World → Prop) (μ : Nat → Act → World → Nat) (h0 : findLabel c 0 = some r0) (h1 : findLabel c 1 = some r1) (h2 : findLabel c 2 = some r2)
    (first : c.wp P (jumpN (of3 J0 J1 J2) Q) a w)
    (pass0 : ∀ a w, J0 a w → r0.wp P (jumpN (fun l' a' w' => of3 J0 J1 J2 l' a' w' ∧ μ l' a' w' < μ 0 a w) Q) a w)
    (pass1 : ∀ a w, J1 a w → r1.wp P (jumpN (fun l' a' w' => of3 J0 J1 J2 l' a' w' ∧ μ l' a' w' < μ 1 a w) Q) a w)
    (pass2 : ∀ a w, J2 a w → r2.wp P (jumpN (fun l' a' w' => of3 J0 J1 J2 l' a' w' ∧ μ l' a' w' < μ 2 a w) Q) a w) : (Code.scope c).wp P Q a w := by
  refine scope_many (of3 J0 J1 J2) μ (fun l => match l with | 0 => r0 | 1 => r1 | 2 => r2 | _ => .skip) (fun l a w h => ?_) first (fun l a w h => ?_)
  · match l, h with
    | 0, _ => exact h0
    | 1, _ => exact h1
    | 2, _ => exact h2
    | _ + 3, h => exact h.elim
  · match l, h with
    | 0, h => exact pass0 a w h
    | 1, h => exact pass1 a w h
    | 2, h => exact pass2 a w h
    | _ + 3, h => exact h.elim
/-- The same, where the code falls into label 0 too: what the pass at label 0 shows serves there as well. -/
theorem scope_three' {P : Program} {a : Act} {w : World} {Q : Exit → Act → World → Prop} {c R0 r1 r2 : Code} (J0 J1 J2 : Act → World → Prop) (μ : Nat → Act → World → Nat) (h0 : findLabel c 0 = some (.seq .skip R0)) (h1 : findLabel c 1 = some r1) (h2 : findLabel c 2 = some r2)
    (pass0 : ∀ a w, J0 a w → R0.wp P (jumpN (fun l' a' w' => of3 J0 J1 J2 l' a' w' ∧ μ l' a' w' < μ 0 a w) Q) a w)
    (pass1 : ∀ a w, J1 a w → r1.wp P (jumpN (fun l' a' w' => of3 J0 J1 J2 l' a' w' ∧ μ l' a' w' < μ 1 a w) Q) a w)
    (pass2 : ∀ a w, J2 a w → r2.wp P (jumpN (fun l' a' w' => of3 J0 J1 J2 l' a' w' ∧ μ l' a' w' < μ 2 a w) Q) a w)
    (first : (∀ a w, J0 a w → R0.wp P (jumpN (of3 J0 J1 J2) Q) a w) → c.wp P (jumpN (of3 J0 J1 J2) Q) a w) : (Code.scope c).wp P Q a w := by
  refine scope_three J0 J1 J2 μ h0 h1 h2 (first fun a w h => Code.wp_mono (fun e a' w' hq => ?_) (pass0 a w h)) (fun a w h => ?_) pass1 pass2
  · cases e with
    | goto l => exact hq.1
    | normal => exact hq
    | exit id => exact hq
    | ret => exact hq
    | panic ch => exact hq
    | outgrown => exact hq
  · apply wp_seq_k
    intro K hK
    apply wp_skip
    exact hK _ _ (pass0 a w h)
end Go.Proofs.YtpagdcobhbkabaaDoor

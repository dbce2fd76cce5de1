/-
  Slices of structs of the call's own (as in layer 14).
-/
import Derived.Test.YtpagdcobhbkabaaDoorOnly
import Derived.Test.YtpagdcobhbkabaaDoorOctX
import Derived.Deep.AppendLies
import Derived.Laws.OwnMore
import Derived.OwnWalk
namespace Go.Proofs.YtpagdcobhbkabaaDoor
open Go.RowKit Go.Sort

theorem grown_low {a b : World} (h : Below a.heap.size a b) (row : Option Nat) : a.grownBy b row := ⟨h.os, h.tape, h.output, h.size, fun k hk _ => h.block k hk⟩
/-- A slice of the call's own, whose elements are some cells each. -/
def OwnS {α : Type} (enc : α → List Value) (e : TypeId) (size : Nat) (w : World) (B : Nat) (v : Value) (l : List α) : Prop := w.ownsRow B e size v l.length (l.flatMap enc)
section
variable {α : Type} {enc : α → List Value} {e : TypeId} {size : Nat} {w w' : World} {B : Nat} {v : Value} {l : List α}
theorem OwnS.later (h : OwnS enc e size w B v l) (hb : Below w.heap.size w w') : OwnS enc e size w' B v l :=
  World.ownsRow.kept h (grown_low hb none) (by cases v.ownBlock <;> simp)
theorem OwnS.grown {row : Option Nat} (h : OwnS enc e size w B v l) (hg : w.grownBy w' row) (hne : v.ownBlock = none ∨ v.ownBlock ≠ row) : OwnS enc e size w' B v l := World.ownsRow.kept h hg hne
theorem OwnS.alloc (h : OwnS enc e size w B v l) (o : Obj) : OwnS enc e size (w.alloc o) B v l := World.ownsRow.alloc h o
theorem OwnS.ne {g : Nat} {t : TypeId} {cs : Array Value} (h : OwnS enc e size w B v l) (hg : Blk w g t cs) (hne : e ≠ t) : v.ownBlock ≠ some g := by
  rcases h.2 with ⟨rfl, _⟩ | ⟨g', cap, cur, rfl, _, hh, _⟩
  · simp [Value.ownBlock]
  · intro he
    have : g' = g := by simpa [Value.ownBlock] using he
    subst this
    exact Blk.ne_ (t := e) hh hg hne rfl
theorem OwnS.low (h : OwnS enc e size w B v l) : ∀ g, v.ownBlock = some g → B ≤ g ∧ g < w.heap.size := World.ownsRow.lt h
theorem OwnS.only {F : Nat → Prop} (h : OwnS enc e size w B v l) (hb : Only F w w') (hn : ∀ g, v.ownBlock = some g → ¬ F g) : OwnS enc e size w' B v l := by
  rcases h with ⟨h1, ⟨rfl, h2⟩ | ⟨g, cap, cur, rfl, h3, h4, h5⟩⟩
  · exact ⟨h1, .inl ⟨rfl, h2⟩⟩
  · refine ⟨h1, .inr ⟨g, cap, cur, rfl, h3, ?_, h5⟩⟩
    rw [hb.block g (Array.getElem?_eq_some_iff.1 h4).1 (hn g rfl)]
    exact h4
/-- An append of one element in a plain region. -/
theorem wpList_ows {ops : Array Oper} {rest : List Oper} {o : Oper} {a : Act} {Q : Exit → Act → World → Prop} (hgd : o.guard = none) (s x : Operand) (t : TypeId)
    (ho : o.op = .call { callee := .builtin .append, args := #[s, x], argTypes := #[t, t] }) (ht : Tryd.prog.underlying t = some (.slice e)) {z : Value} {bytes : Nat}
    (hinfo : (Tryd.prog.info? e).map (fun i => (i.zero, i.size, i.bytes)) = some (some z, size, bytes)) (hzs : z.cells.size = size) (hsz : 0 < size) (hby : bytes ≤ 64)
    (h : Nat) (y : α) (hs : a.eval s = v) (hx : a.eval x = .slice (some ⟨h, 0, none⟩) 1 1) (hown : OwnS enc e size w B v l) (hblk : Blk w h e (enc y).toArray) (hey : (enc y).length = size) (h1 : ∀ u ∈ enc y, u.oneCell' = true)
    (hB : B ≤ w.heap.size) (hlen : l.length < 1000)
    (hK : ∀ v' w', OwnS enc e size w' B v' (l ++ [y]) → w.grownBy w' v.ownBlock → (v'.ownBlock = v.ownBlock ∨ v'.ownBlock = some w.heap.size) → wpList Tryd.prog ops Q rest (a.put o.dst v') w') : wpList Tryd.prog ops Q (o :: rest) a w := by
  obtain ⟨i0, hi, hz0, hz1, hz2⟩ := info_parts' hinfo
  have hb2 : (l.length + 1) * bytes ≤ 140737488355328 := by
    have : (l.length + 1) * bytes ≤ 1000 * 64 := Nat.mul_le_mul (by omega) hby
    omega
  refine wpList_append_lies w hgd s x t ho B e i0 _ size bytes ht hi hz0 hz1 hz2 hzs hsz v l.length _ hs hown ⟨h, 0, none⟩ 1 1 (enc y) hx (by rw [hey, Nat.one_mul]) (World.news_of_block hblk) h1 (by omega) (by unfold maxLen; omega) hb2 hB w.heap.size rfl ?_
  intro g cap w' h1 h2 h3 _
  refine hK _ w' ?_ h2 ?_
  · unfold OwnS
    simpa using h1
  · rcases h3 with h3 | h3
    · exact .inl (by rw [h3]; rfl)
    · exact .inr (by subst h3; rfl)
end
section
variable {α β : Type} {enc : α → List Value} {enc' : β → List Value} {e e' : TypeId} {size size' : Nat} {w w' : World} {B B' : Nat} {v v' : Value} {l : List α} {m : List β}
theorem OwnS.apart (h : OwnS enc e size w B v l) (h' : OwnS enc' e' size' w B' v' m) (hne : e ≠ e') : v.ownBlock = none ∨ v.ownBlock ≠ v'.ownBlock := by
  rcases h.2 with ⟨rfl, _⟩ | ⟨g, cap, cur, rfl, _, hh, _⟩
  · exact .inl rfl
  · right
    intro he
    exact OwnS.ne h' (g := g) (t := e) (cs := cur) hh (Ne.symm hne) he.symm
theorem blkS_row {g : Nat} {t : TypeId} {cs : Array Value} (hk : Blk w g t cs) (h : OwnS enc e size w B v l) (hg : w.grownBy w' v.ownBlock) (hne : e ≠ t) : Blk w' g t cs :=
  (hg.block g hk.lt (fun he => OwnS.ne h hk hne he.symm)).trans hk
theorem OwnS.p1 {p : Nat} (h : OwnS enc e size w B v l) (hg : w.grownBy w' (some p)) (hp : p < B) : OwnS enc e size w' B v l := h.grown hg (by
  cases hv : v.ownBlock with
  | none => exact .inl rfl
  | some g =>
    right
    intro he
    injection he with he
    have := (h.low g hv).1
    omega)
end
theorem flatS_at {α : Type} (enc : α → List Value) (m : Nat) (he : ∀ y, (enc y).length = m) : ∀ (l : List α) (k j : Nat) (hk : k < l.length) (_ : j < m), (l.flatMap enc)[k * m + j]? = (enc l[k])[j]?
  | [], k, j, hk, _ => absurd hk (by simp)
  | x :: t, 0, j, _, hj => by
    rw [List.flatMap_cons, Nat.zero_mul, Nat.zero_add, List.getElem?_append_left (by rw [he]; exact hj)]
    rfl
  | x :: t, k + 1, j, hk, hj => by
    have ih := flatS_at enc m he t k j (by simpa using hk) hj
    rw [List.flatMap_cons, Nat.succ_mul, List.getElem?_append_right (by rw [he]; omega), he]
    rw [show k * m + m + j - m = k * m + j by omega, ih]
    rfl
theorem OwnS.cells {α : Type} {enc : α → List Value} {e : TypeId} {m : Nat} {w : World} {B : Nat} {v : Value} {l : List α} (h : OwnS enc e m w B v l) (he : ∀ y, (enc y).length = m) :
    ∃ A c, v = .slice A l.length c ∧ (0 < l.length → ∃ g, A = some ⟨g, 0, none⟩ ∧ g < w.heap.size ∧ ∀ k (hk : k < l.length) j, j < m → w.cell? ⟨g, k * m + j, none⟩ = (enc l[k])[j]?) := by
  by_cases hl : 0 < l.length
  · obtain ⟨g, cap, rfl, _, _⟩ := World.ownsRow.form h hl
    refine ⟨_, cap, rfl, fun _ => ⟨g, rfl, ((OwnS.low h) g rfl).2, fun k hk j hj => ?_⟩⟩
    have hlt : k * m + j < l.length * m := by
      have : (k + 1) * m ≤ l.length * m := Nat.mul_le_mul_right m hk
      rw [Nat.succ_mul] at this
      omega
    rw [World.ownsRow.cellAt h (k * m + j) hlt, flatS_at enc m he l k j hk hj]
  · rcases h.2 with ⟨rfl, h0⟩ | ⟨g, cap, cur, rfl, _⟩
    · exact ⟨none, 0, by rw [h0], fun hh => absurd hh hl⟩
    · exact ⟨_, cap, rfl, fun hh => absurd hh hl⟩

end Go.Proofs.YtpagdcobhbkabaaDoor

/-
  Slices of structs of the call's own.
-/
import Derived.Test.YtniiemmgcjkphaaBktS
import Derived.Test.YtniiemmgcjkphaaPacI
namespace Go.Proofs.Ytniiemmgcjkphaa
open Go.RowKit Go.Sort

/-- A slice of the call's own, whose elements are some cells each. -/
def OwnE {α : Type} (enc : α → List Value) (e : TypeId) (size : Nat) (w : World) (B : Nat) (v : Value) (l : List α) : Prop := w.ownsRow B e size v l.length (l.flatMap enc)
section
variable {α : Type} {enc : α → List Value} {e : TypeId} {size : Nat} {w w' : World} {B : Nat} {v : Value} {l : List α}
theorem OwnE.later (h : OwnE enc e size w B v l) (hb : Below w.heap.size w w') : OwnE enc e size w' B v l :=
  World.ownsRow.kept h (grown_of_low hb none) (by cases v.ownBlock <;> simp)
theorem OwnE.grown {row : Option Nat} (h : OwnE enc e size w B v l) (hg : w.grownBy w' row) (hne : v.ownBlock = none ∨ v.ownBlock ≠ row) : OwnE enc e size w' B v l := World.ownsRow.kept h hg hne
theorem OwnE.alloc (h : OwnE enc e size w B v l) (o : Obj) : OwnE enc e size (w.alloc o) B v l := World.ownsRow.alloc h o
theorem OwnE.ne {g : Nat} {t : TypeId} {cs : Array Value} (h : OwnE enc e size w B v l) (hg : Blk w g t cs) (hne : e ≠ t) : v.ownBlock ≠ some g := by
  rcases h.2 with ⟨rfl, _⟩ | ⟨g', cap, cur, rfl, _, hh, _⟩
  · simp [Value.ownBlock]
  · intro he
    have : g' = g := by simpa [Value.ownBlock] using he
    subst this
    exact Blk.ne_ (t := e) hh hg hne rfl
theorem OwnE.low (h : OwnE enc e size w B v l) : ∀ g, v.ownBlock = some g → B ≤ g ∧ g < w.heap.size := World.ownsRow.lt h
theorem OwnE.only {F : Nat → Prop} (h : OwnE enc e size w B v l) (hb : Only F w w') (hn : ∀ g, v.ownBlock = some g → ¬ F g) : OwnE enc e size w' B v l := by
  rcases h with ⟨h1, ⟨rfl, h2⟩ | ⟨g, cap, cur, rfl, h3, h4, h5⟩⟩
  · exact ⟨h1, .inl ⟨rfl, h2⟩⟩
  · refine ⟨h1, .inr ⟨g, cap, cur, rfl, h3, ?_, h5⟩⟩
    rw [hb.block g (Array.getElem?_eq_some_iff.1 h4).1 (hn g rfl)]
    exact h4
/-- An append of one element in a plain region. -/
theorem wpList_own {ops : Array Oper} {rest : List Oper} {o : Oper} {a : Act} {Q : Exit → Act → World → Prop} (hgd : o.guard = none) (s x : Operand) (t : TypeId)
    (ho : o.op = .call { callee := .builtin .append, args := #[s, x], argTypes := #[t, t] }) (ht : Try.prog.underlying t = some (.slice e)) {z : Value} {bytes : Nat}
    (hinfo : (Try.prog.info? e).map (fun i => (i.zero, i.size, i.bytes)) = some (some z, size, bytes)) (hzs : z.cells.size = size) (hsz : 0 < size) (hby : bytes ≤ 64)
    (h : Nat) (y : α) (hs : a.eval s = v) (hx : a.eval x = .slice (some ⟨h, 0, none⟩) 1 1) (hown : OwnE enc e size w B v l) (hblk : Blk w h e (enc y).toArray) (hey : (enc y).length = size) (h1 : ∀ u ∈ enc y, u.oneCell' = true)
    (hB : B ≤ w.heap.size) (hlen : l.length < 100)
    (hK : ∀ v' w', OwnE enc e size w' B v' (l ++ [y]) → w.grownBy w' v.ownBlock → (v'.ownBlock = v.ownBlock ∨ v'.ownBlock = some w.heap.size) → wpList Try.prog ops Q rest (a.put o.dst v') w') : wpList Try.prog ops Q (o :: rest) a w := by
  obtain ⟨i0, hi, hz0, hz1, hz2⟩ := info_parts hinfo
  have hb2 : (l.length + 1) * bytes ≤ 140737488355328 := by
    have : (l.length + 1) * bytes ≤ 100 * 64 := Nat.mul_le_mul (by omega) hby
    omega
  refine wpList_append_lies w hgd s x t ho B e i0 _ size bytes ht hi hz0 hz1 hz2 hzs hsz v l.length _ hs hown ⟨h, 0, none⟩ 1 1 (enc y) hx (by rw [hey, Nat.one_mul]) (World.news_of_block hblk) h1 (by omega) (by unfold maxLen; omega) hb2 hB w.heap.size rfl ?_
  intro g cap w' h1 h2 h3 _
  refine hK _ w' ?_ h2 ?_
  · unfold OwnE
    simpa using h1
  · rcases h3 with h3 | h3
    · exact .inl (by rw [h3]; rfl)
    · exact .inr (by subst h3; rfl)
end
end Go.Proofs.Ytniiemmgcjkphaa

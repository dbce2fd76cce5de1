/-
  Layer 2: slices of bytes; copies; what is appended; which are the same.
-/
import Derived.Test.YtpagdcobhbkabaaDoorOctA
import Derived.Laws.BytesArg
import Derived.Laws.AppendOwnNone
import Derived.Maps.AppendAt
import Derived.Lib.AppendZeros
namespace Go.Proofs.YtpagdcobhbkabaaDoor
open Go.RowKit Go.Sort Go.Shelf Go.Deep Go.WideShapes

def u8 (l : List Int) : List Value := l.map (Value.int .u8)
theorem u8_length (l : List Int) : (u8 l).length = l.length := List.length_map _
theorem u8_one (l : List Int) : ∀ u ∈ u8 l, u.oneCell' = true := fun u hu => by
  obtain ⟨x, _, rfl⟩ := List.mem_map.1 hu; rfl
theorem u8_app (l m : List Int) : u8 (l ++ m) = u8 l ++ u8 m := List.map_append ..

/-- A slice of bytes wherever it lies. -/
def Rb (w : World) (A : Option Addr) (n c : Nat) (l : List Int) : Prop :=
  l.length = n ∧ n ≤ c ∧ c ≤ maxLen ∧ ((A = none ∧ n = 0 ∧ c = 0) ∨ ∃ a, A = some a ∧ ∀ k (hk : k < l.length), w.cell? (a.add k) = some (.int .u8 l[k]))
/-- A slice of bytes in the block q. -/
def Sl (w : World) (q : Nat) (A : Option Addr) (n c : Nat) (l : List Int) : Prop :=
  l.length = n ∧ n ≤ c ∧ c ≤ maxLen ∧ ((A = none ∧ n = 0 ∧ c = 0) ∨ ∃ off, A = some ⟨q, off, none⟩ ∧ q < w.heap.size ∧ ∀ k (hk : k < l.length), w.cell? ⟨q, off + k, none⟩ = some (.int .u8 l[k]))
/-- Bytes of the call's own. -/
def OB (w : World) (B : Nat) (v : Value) (l : List Int) : Prop := w.ownsRow B 5 1 v l.length (u8 l)

theorem add_lit0 (q off k : Nat) : (⟨q, off, none⟩ : Addr).add k = ⟨q, off + k, none⟩ := add_plain q off k
section
variable {w w' : World} {q B n c : Nat} {A : Option Addr} {l : List Int} {v : Value}
theorem Sl.rb (h : Sl w q A n c l) : Rb w A n c l := by
  obtain ⟨h1, h2, h3, h4 | ⟨off, rfl, _, h5⟩⟩ := h
  · exact ⟨h1, h2, h3, .inl h4⟩
  · exact ⟨h1, h2, h3, .inr ⟨_, rfl, fun k hk => by rw [add_lit0]; exact h5 k hk⟩⟩
theorem Rb.later (h : Rb w A n c l) (hb : Below w.heap.size w w') : Rb w' A n c l := by
  obtain ⟨h1, h2, h3, h4 | ⟨a, rfl, h5⟩⟩ := h
  · exact ⟨h1, h2, h3, .inl h4⟩
  · exact ⟨h1, h2, h3, .inr ⟨_, rfl, fun k hk => (hb.cell (block_lt_of_cell (h5 k hk))).trans (h5 k hk)⟩⟩
theorem Sl.later (h : Sl w q A n c l) (hb : Below w.heap.size w w') : Sl w' q A n c l := by
  obtain ⟨h1, h2, h3, h4 | ⟨off, rfl, hq, h5⟩⟩ := h
  · exact ⟨h1, h2, h3, .inl h4⟩
  · exact ⟨h1, h2, h3, .inr ⟨_, rfl, Nat.lt_of_lt_of_le hq hb.size, fun k hk => (hb.cell (p := ⟨q, _, none⟩) hq).trans (h5 k hk)⟩⟩
theorem Sl.far (h : Sl w q A n c l) (hs : w.heap.size ≤ w'.heap.size) (hb : q < w.heap.size → w'.heap[q]? = w.heap[q]?) : Sl w' q A n c l := by
  obtain ⟨h1, h2, h3, h4 | ⟨off, rfl, hq, h5⟩⟩ := h
  · exact ⟨h1, h2, h3, .inl h4⟩
  · exact ⟨h1, h2, h3, .inr ⟨_, rfl, Nat.lt_of_lt_of_le hq hs, fun k hk => (World.cell?_of_block (a := ⟨q, _, none⟩) (hb hq)).trans (h5 k hk)⟩⟩
theorem OB.open_ (h : OB w B v l) : ∃ q A c, v = .slice A l.length c ∧ B ≤ q ∧ Sl w q A l.length c l ∧ ∀ g, v.ownBlock = some g → g = q := by
  rcases h.2 with ⟨rfl, h0⟩ | ⟨g, cap, cur, rfl, hb, hh, hn, hm, hs, ht⟩
  · exact ⟨B, none, 0, by rw [h0], Nat.le_refl _, ⟨rfl, by omega, by unfold maxLen; omega, .inl ⟨rfl, h0, rfl⟩⟩, fun g hg => by simp [Value.ownBlock] at hg⟩
  · refine ⟨g, _, cap, rfl, hb, ⟨rfl, hn, hm, .inr ⟨0, rfl, (Array.getElem?_eq_some_iff.1 hh).1, fun k hk => ?_⟩⟩, fun g' hg => by simpa [Value.ownBlock] using hg.symm⟩
    have e1 : (u8 l)[k]? = some (.int .u8 l[k]) := by simp [u8, hk]
    rw [← ht, List.getElem?_take_of_lt (by omega)] at e1
    rw [Nat.zero_add, cell_of_row w g k cur _ _ hh]
    simpa using e1
theorem OB.later (h : OB w B v l) (hb : Below w.heap.size w w') : OB w' B v l := World.ownsRow.kept h (row := none) ⟨hb.os, hb.tape, hb.output, hb.size, fun k hk _ => hb.block k hk⟩ (by cases v.ownBlock <;> simp)
theorem OB.alloc (h : OB w B v l) (o : Obj) : OB (w.alloc o) B v l := World.ownsRow.alloc h o
theorem OB.mono {B' : Nat} (h : OB w B v l) (hB : B' ≤ B) : OB w B' v l := by
  refine ⟨h.1, ?_⟩
  rcases h.2 with h1 | ⟨g, cap, cur, h1, h2, h3⟩
  · exact .inl h1
  · exact .inr ⟨g, cap, cur, h1, Nat.le_trans hB h2, h3⟩
end
theorem OB.nil (w : World) (B : Nat) : OB w B (.slice none 0 0) [] := World.ownsRow_nil w B _ _

theorem byte_info : (Tryd.prog.info? 5).map (fun i => (i.zero, i.size, i.bytes)) = some (some (.int .u8 0), 1, 1) := by kernel_rfl
theorem info_parts' {P : Program} {t : TypeId} {z : Value} {s b : Nat} (h : (P.info? t).map (fun i => (i.zero, i.size, i.bytes)) = some (some z, s, b)) : ∃ i, P.info? t = some i ∧ i.zero = some z ∧ i.size = s ∧ i.bytes = b := by
  cases hi : P.info? t with
  | none => rw [hi] at h; simp at h
  | some i => rw [hi] at h; simp at h; exact ⟨i, rfl, h.1, h.2.1, h.2.2⟩

/-- An append of bytes to bytes of the call's own. -/
theorem run_app {w : World} {B n c : Nat} {v : Value} {l m : List Int} {A : Option Addr} (ty : TypeId) (h : OB w B v l) (hx : Rb w A n c m) (hs : l.length + m.length ≤ 100000) (hB : B ≤ w.heap.size) :
    ∃ v' w', (Builtin.append_ #[27, 27] ty #[v, .slice A n c]).run Tryd.prog w = .ok v' w' ∧ OB w' B v' (l ++ m) ∧ w.grownBy w' v.ownBlock ∧ (v'.ownBlock = v.ownBlock ∨ v'.ownBlock = some w.heap.size) := by
  obtain ⟨i0, hi, hz0, hz1, hz2⟩ := info_parts' byte_info
  obtain ⟨h1, h2, h3, ⟨rfl, rfl, rfl⟩ | ⟨a, rfl, h5⟩⟩ := hx
  · have hm : m = [] := List.length_eq_zero_iff.1 h1
    subst hm
    exact ⟨v, w, run_append_owned_none w B 27 ty 5 i0 1 Tryd.underlying27 hi v _ _ h, by rw [List.append_nil]; exact h, World.grownBy.refl w _, .inl rfl⟩
  · obtain ⟨v', w', e1, e2, e3, _, e5⟩ := run_append_own_at (P := Tryd.prog) (w := w) B 27 ty 5 i0 (.int .u8 0) 1 1 Tryd.underlying27 hi hz0 hz1 hz2 rfl (by omega) v l.length (u8 l) h a n c (u8 m) (by rw [u8_length, h1, Nat.mul_one]) (fun j u hu => by
        have hj : j < m.length := by
          have := (List.getElem?_eq_some_iff.1 hu).1
          rwa [u8_length] at this
        have : u = .int .u8 m[j] := by simpa [u8, hj] using hu.symm
        rw [this]
        exact h5 j hj) (u8_one m) (by unfold maxLen; omega) (by omega) hB
    refine ⟨v', w', e1, ?_, e3, e5⟩
    unfold OB
    rw [List.length_append, u8_app, h1]
    exact e2
theorem wpList_app {w : World} {B n c : Nat} {v : Value} {l m : List Int} {A : Option Addr} {ops : Array Oper} {rest : List Oper} {o : Oper} {a : Act} {Q : Exit → Act → World → Prop} (hgd : o.guard = none) (s x : Operand)
    (ho : o.op = .call { callee := .builtin .append, args := #[s, x], argTypes := #[27, 27] }) (hs : a.eval s = v) (hx : a.eval x = .slice A n c) (h : OB w B v l) (hu : Rb w A n c m) (hl : l.length + m.length ≤ 100000) (hB : B ≤ w.heap.size)
    (hK : ∀ v' w', OB w' B v' (l ++ m) → w.grownBy w' v.ownBlock → (v'.ownBlock = v.ownBlock ∨ v'.ownBlock = some w.heap.size) → wpList Tryd.prog ops Q rest (a.put o.dst v') w') : wpList Tryd.prog ops Q (o :: rest) a w := by
  obtain ⟨v', w', e1, e2, e3, e4⟩ := run_app o.type h hu hl hB
  exact Lib.wpList_append_run w hgd s x _ _ ho v _ hs hx v' w' e1 (hK v' w' e2 e3 e4)

/-! ### string(b) -/
theorem run_conv {w : World} {A : Option Addr} {n c : Nat} {l : List Int} (h : Rb w A n c l) : (convert 27 9 (.slice A n c)).run Tryd.prog w = .ok (.string (strOfNums l)) w := by
  obtain ⟨h1, h2, h3, ⟨rfl, rfl, rfl⟩ | ⟨a, rfl, h5⟩⟩ := h
  · have hm : l = [] := List.length_eq_zero_iff.1 h1
    subst hm
    exact run_convert_bytes_nil w _ 5 Tryd.underlying27 Tryd.underlying5 0 0 _ Tryd.underlying9
  · by_cases h0 : l = []
    · subst h0
      have : n = 0 := h1.symm
      subst this
      rw [run_convert_bytes_string w _ _ 5 _ 0 c Tryd.underlying27 Tryd.underlying5 Tryd.underlying9]
      simp [Conv.bytesToString, loadCells]
      rfl
    · have hp : 0 < l.length := List.length_pos_iff.2 h0
      obtain ⟨b, off, spot⟩ := a
      have hsp : spot = none := by
        have := World.cell?_spot (h5 0 hp)
        simpa [Addr.add] using this
      subst hsp
      exact run_convert_bytes_arg w _ 5 Tryd.underlying27 Tryd.underlying5 b off n c l h1 (fun i hi => by
        have := h5 i (by omega)
        rw [add_lit0] at this
        rw [this, List.getD_eq_getElem?_getD, List.getElem?_eq_getElem (by omega)]
        rfl) _ Tryd.underlying9
theorem str_inj {l m : List Int} (hl : Oct.Bys l) (hm : Oct.Bys m) (h : strOfNums l = strOfNums m) : l = m := by
  have e : l.map (fun n => UInt8.ofNat n.toNat) = m.map (fun n => UInt8.ofNat n.toNat) := by rw [← strOfNums_data, ← strOfNums_data, h]
  induction l generalizing m with
  | nil => cases m with
    | nil => rfl
    | cons b m => simp at e
  | cons a l ih => cases m with
    | nil => simp at e
    | cons b m =>
      rw [List.map_cons, List.map_cons, List.cons.injEq] at e
      obtain ⟨e1, e2⟩ := e
      have ha := hl.head
      have hb := hm.head
      have e3 := congrArg UInt8.toNat e1
      simp at e3
      rw [Nat.mod_eq_of_lt (by omega), Nat.mod_eq_of_lt (by omega)] at e3
      have : a = b := by omega
      subst this
      rw [ih hl.tail hm.tail (by
        apply ByteArray.ext
        apply Array.toList_inj.1
        rw [strOfNums_data, strOfNums_data]; exact e2) e2]

theorem str_beq (x y : ByteArray) : (x.toList == y.toList) = decide (x = y) := by
  rw [ByteArray.toList_eq, ByteArray.toList_eq]
  by_cases h : x = y
  · subst h; simp
  · rw [decide_eq_false h]
    simp only [beq_eq_false_iff_ne, ne_eq]
    intro e
    exact h (ByteArray.ext (Array.toList_inj.1 e))
theorem eqb_any (A A' : Option Addr) (n c n' c' : Nat) (l m : List Int) (w : World) (h : Rb w A n c l) (h' : Rb w A' n' c' m) (hl : Oct.Bys l) (hm : Oct.Bys m) :
    Calls Tryd.prog 17 #[.slice A n c, .slice A' n' c'] w fun e w' => e = .returned (.bool (decide (l = m))) ∧ w = w' := by
  have e1 := run_conv h
  have e2 := run_conv h'
  have e3 : (decide (l = m)) = decide (strOfNums l = strOfNums m) := by
    by_cases he : l = m
    · subst he; simp
    · rw [decide_eq_false he, decide_eq_false (fun hs => he (str_inj hl hm hs))]
  rw [e3]
  generalize strOfNums l = x at *
  generalize strOfNums m = y at *
  clear e3 h h' hl hm
  go_enter Tryd.func17, Tryd.ntmps17
  go_wp2
  go_ret
  exact ⟨by rw [← str_beq]; rfl, rfl⟩
end Go.Proofs.YtpagdcobhbkabaaDoor

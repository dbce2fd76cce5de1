/-
  A frame for calls that may turn some blocks: 'Only F'.
-/
import Derived.Test.YtpagdcobhbkabaaDoorKit
namespace Go.Proofs.YtpagdcobhbkabaaDoor
open Go.RowKit Go.Sort

/-- Nothing but the blocks F has turned, and what is new. -/
structure Only (F : Nat → Prop) (w w' : World) : Prop where
  os : w'.os = w.os
  tape : w'.tape = w.tape
  output : w'.output = w.output
  size : w.heap.size ≤ w'.heap.size
  block : ∀ k, k < w.heap.size → ¬ F k → w'.heap[k]? = w.heap[k]?
theorem Only.refl (F : Nat → Prop) (w : World) : Only F w w := ⟨rfl, rfl, rfl, Nat.le_refl _, fun _ _ _ => rfl⟩
theorem Only.trans {F : Nat → Prop} {a b c : World} (h : Only F a b) (k : Only F b c) : Only F a c :=
  ⟨k.os.trans h.os, k.tape.trans h.tape, k.output.trans h.output, Nat.le_trans h.size k.size, fun i hi hn => (k.block i (Nat.lt_of_lt_of_le hi h.size) hn).trans (h.block i hi hn)⟩
theorem Only.of_below {F : Nat → Prop} {a b : World} (h : Below a.heap.size a b) : Only F a b := ⟨h.os, h.tape, h.output, h.size, fun i hi _ => h.block i hi⟩
theorem Only.of_grown {F : Nat → Prop} {a b : World} {g : Nat} (h : a.grownBy b (some g)) (hg : F g) : Only F a b :=
  ⟨h.os, h.tape, h.output, h.size, fun i hi hn => h.block i hi (fun e => by injection e with e; exact hn (e ▸ hg))⟩
theorem Only.mono {F G : Nat → Prop} {a b : World} (h : Only F a b) (hs : ∀ k, F k → G k) : Only G a b := ⟨h.os, h.tape, h.output, h.size, fun i hi hn => h.block i hi (fun hf => hn (hs i hf))⟩
theorem Only.set {F : Nat → Prop} {a b : World} (h : Only F a b) {p : Addr} (hp : F p.block) (u : Value) : Only F a (b.setCell p u) :=
  ⟨h.os, h.tape, h.output, by simpa [World.setCell] using h.size, fun i hi hn => (Below.heap_setCell b p u i (by rintro rfl; exact hn hp)).trans (h.block i hi hn)⟩
theorem Only.drewN {F : Nat → Prop} {a b : World} (h : Only F a b) (n : Nat) : Only F a (b.drewN n) := ⟨h.os, h.tape, h.output, h.size, h.block⟩
theorem Only.drew {F : Nat → Prop} {a b : World} (h : Only F a b) : Only F a b.drew := ⟨h.os, h.tape, h.output, h.size, h.block⟩
theorem Only.undrew {F : Nat → Prop} {a b : World} (h : Only F a.drew b) : Only F a b := ⟨h.os, h.tape, h.output, h.size, h.block⟩
theorem Only.grown {a b : World} {g : Nat} (h : Only (· = g) a b) : a.grownBy b (some g) := ⟨h.os, h.tape, h.output, h.size, fun i hi hn => h.block i hi (fun e => hn (by rw [e]))⟩
theorem Only.below {F : Nat → Prop} {B : Nat} {a b : World} (h : Only F a b) (hB : ∀ k, F k → B ≤ k) (hs : B ≤ a.heap.size) : Below B a b :=
  ⟨h.os, h.tape, h.output, h.size, fun k hk => h.block k (by omega) (fun hf => by have := hB k hf; omega)⟩
theorem Blk.only {F : Nat → Prop} {w w' : World} {g : Nat} {t : TypeId} {cs : Array Value} (h : Blk w g t cs) (hb : Only F w w') (hn : ¬ F g) : Blk w' g t cs := (hb.block g h.lt hn).trans h
theorem only_old {F : Nat → Prop} {B : Nat} {a w w' : World} (h : Below B a w) (k : Only F w w') (hB : ∀ i, F i → B ≤ i) (hs : B ≤ w.heap.size) : Below B a w' := h.trans (k.below hB hs)

end Go.Proofs.YtpagdcobhbkabaaDoor

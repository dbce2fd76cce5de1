/-
  Layer 14, plain: a pacer as a bucket and a rate. And a frame for calls that may turn some blocks.
-/
import Derived.Test.YtniiemmgcjkphaaBktI
namespace Go.Proofs.Ytniiemmgcjkphaa
open Go.RowKit Go.Sort

/-- Nothing but the blocks F has turned, and what is new. -/
structure Only (F : Nat → Prop) (w w' : World) : Prop where
  os : w'.os = w.os
  tape : w'.tape = w.tape
  output : w'.output = w.output
  size : w.heap.size ≤ w'.heap.size
  block : ∀ k, k < w.heap.size → ¬ F k → w'.heap[k]? = w.heap[k]?
theorem Only.refl (F : Nat → Prop) (w : World) : Only F w w := ⟨rfl, rfl, rfl, Nat.le_refl _, fun _ _ _ => rfl⟩
theorem Only.trans {F : Nat → Prop} {a b c : World} (h : Only F a b) (k : Only F b c) : Only F a c :=
  ⟨k.os.trans h.os, k.tape.trans h.tape, k.output.trans h.output, Nat.le_trans h.size k.size, fun i hi hn => (k.block i (Nat.lt_of_lt_of_le hi h.size) hn).trans (h.block i hi hn)⟩
theorem Only.of_below {F : Nat → Prop} {a b : World} (h : Below a.heap.size a b) : Only F a b := ⟨h.os, h.tape, h.output, h.size, fun i hi _ => h.block i hi⟩
theorem Only.of_grown {F : Nat → Prop} {a b : World} {g : Nat} (h : a.grownBy b (some g)) (hg : F g) : Only F a b :=
  ⟨h.os, h.tape, h.output, h.size, fun i hi hn => h.block i hi (fun e => by injection e with e; exact hn (e ▸ hg))⟩
theorem Only.mono {F G : Nat → Prop} {a b : World} (h : Only F a b) (hs : ∀ k, F k → G k) : Only G a b := ⟨h.os, h.tape, h.output, h.size, fun i hi hn => h.block i hi (fun hf => hn (hs i hf))⟩
theorem Only.set {F : Nat → Prop} {a b : World} (h : Only F a b) {p : Addr} (hp : F p.block) (u : Value) : Only F a (b.setCell p u) :=
  ⟨h.os, h.tape, h.output, by simpa [World.setCell] using h.size, fun i hi hn => (Below.heap_setCell b p u i (by rintro rfl; exact hn hp)).trans (h.block i hi hn)⟩
theorem Only.drewN {F : Nat → Prop} {a b : World} (h : Only F a b) (n : Nat) : Only F a (b.drewN n) := ⟨h.os, h.tape, h.output, h.size, h.block⟩
theorem Only.drew {F : Nat → Prop} {a b : World} (h : Only F a b) : Only F a b.drew := ⟨h.os, h.tape, h.output, h.size, h.block⟩
theorem Only.undrew {F : Nat → Prop} {a b : World} (h : Only F a.drew b) : Only F a b := ⟨h.os, h.tape, h.output, h.size, h.block⟩
theorem Only.grown {a b : World} {g : Nat} (h : Only (· = g) a b) : a.grownBy b (some g) := ⟨h.os, h.tape, h.output, h.size, fun i hi hn => h.block i hi (fun e => hn (by rw [e]))⟩
theorem Only.below {F : Nat → Prop} {B : Nat} {a b : World} (h : Only F a b) (hB : ∀ k, F k → B ≤ k) (hs : B ≤ a.heap.size) : Below B a b :=
  ⟨h.os, h.tape, h.output, h.size, fun k hk => h.block k (by omega) (fun hf => by have := hB k hf; omega)⟩
theorem Blk.only {F : Nat → Prop} {w w' : World} {g : Nat} {t : TypeId} {cs : Array Value} (h : Blk w g t cs) (hb : Only F w w') (hn : ¬ F g) : Blk w' g t cs := (hb.block g h.lt hn).trans h
theorem only_old {F : Nat → Prop} {B : Nat} {a w w' : World} (h : Below B a w) (k : Only F w w') (hB : ∀ i, F i → B ≤ i) (hs : B ≤ w.heap.size) : Below B a w' := h.trans (k.below hB hs)

namespace Pac
structure St where
  b : Bkt.St
  num : Int
  den : Int
def comeE (s : St) (t : Int) : Int := Bkt.fillE s.b t s.num s.den
def come (s : St) (t : Int) : St := { s with b := Bkt.fillS s.b t s.num s.den }
def isSize (n : Int) : Bool := decide (1 ≤ n ∧ n ≤ 65535)
def setOk (t cwnd smooth : Int) : Bool := Sat.isN t && decide (1 ≤ cwnd ∧ cwnd ≤ 1099511627776) && Sat.isN smooth
def setE (s : St) (t cwnd smooth : Int) : Int := if setOk t cwnd smooth then comeE s t else 2
def den4 (smooth : Int) : Int := max 1 (min (4 * smooth) 9007199254740991)
def set (s : St) (t cwnd smooth : Int) : St := if setE s t cwnd smooth = 0 then ⟨Bkt.fillS s.b t s.num s.den, 5 * cwnd, den4 smooth⟩ else s
def sendE (s : St) (t n : Int) : Int := if Sat.isN t && isSize n then (if comeE s t = 0 then (if Bkt.takeE (Bkt.fillS s.b t s.num s.den) n = 0 then 0 else 213) else comeE s t) else 2
def send (s : St) (t n : Int) : St := if sendE s t n = 0 then { s with b := Bkt.takeS (Bkt.fillS s.b t s.num s.den) n } else s
def when_ (s : St) (n : Int) : Int := if isSize n then Bkt.when_ s.b n s.num s.den else -1
def left (s : St) (t : Int) : Int := if comeE s t = 0 then (Bkt.fillS s.b t s.num s.den).n else 0
def start (B t : Int) : St := ⟨Bkt.start B t, 0, 1⟩

structure wf (s : St) : Prop where
  b : Bkt.wf s.b
  may : Bkt.may s.num s.den = true

theorem isSize_iff (n : Int) : isSize n = true ↔ 1 ≤ n ∧ n ≤ 65535 := by unfold isSize; simp
theorem setOk_iff (t cwnd smooth : Int) : setOk t cwnd smooth = true ↔ (0 ≤ t ∧ t ≤ 9007199254740991) ∧ (1 ≤ cwnd ∧ cwnd ≤ 1099511627776) ∧ 0 ≤ smooth ∧ smooth ≤ 9007199254740991 := by
  unfold setOk; simp [Sat.isN_iff, and_assoc]
theorem may_set {cwnd smooth : Int} (c0 : 1 ≤ cwnd) (c1 : cwnd ≤ 1099511627776) : Bkt.may (5 * cwnd) (den4 smooth) = true := by
  rw [Bkt.may_iff]; unfold den4; omega
theorem wf_start {B t : Int} (h : Bkt.newOk B t = true) : wf (start B t) := ⟨Bkt.wf_start h, show Bkt.may 0 1 = true by decide⟩
theorem wf_come {s : St} (h : wf s) (t : Int) : wf (come s t) := ⟨Bkt.wf_fillS h.b t _ _, h.may⟩
theorem wf_set {s : St} (h : wf s) (t cwnd smooth : Int) : wf (set s t cwnd smooth) := by
  unfold set
  by_cases e : setE s t cwnd smooth = 0
  · rw [if_pos e]
    have ho : setOk t cwnd smooth = true := by
      unfold setE at e
      by_cases c : setOk t cwnd smooth = true
      · exact c
      · rw [if_neg c] at e; omega
    rw [setOk_iff] at ho
    exact ⟨Bkt.wf_fillS h.b t _ _, may_set ho.2.1.1 ho.2.1.2⟩
  · rw [if_neg e]; exact h
theorem wf_send {s : St} (h : wf s) (t n : Int) : wf (send s t n) := by
  unfold send
  by_cases e : sendE s t n = 0
  · rw [if_pos e]; exact ⟨Bkt.wf_takeS (Bkt.wf_fillS h.b t _ _) n, h.may⟩
  · rw [if_neg e]; exact h
end Pac

def PcB (w : World) (p b : Nat) (num den : Int) : Prop := Blk w p 96 #[.pointer (some ⟨b, 0, none⟩), .int .i64 num, .int .i64 den]
def RPcB (w : World) (p b : Nat) (num den : Int) : Prop := Blk w p 111 #[.pointer (some ⟨b, 0, none⟩), .int .i64 num, .int .i64 den]
/-- A pacer at p, its bucket at b. -/
structure Pk (w : World) (p b : Nat) (s : Pac.St) : Prop where
  p : PcB w p b s.num s.den
  b : Bk w b s.b
structure RPk (w : World) (p b : Nat) (s : Pac.St) : Prop where
  p : RPcB w p b s.num s.den
  b : RBk w b s.b
section
variable {w w' : World} {p b : Nat} {s : Pac.St}
theorem Pk.kept (h : Pk w p b s) (hb : Below w.heap.size w w') : Pk w' p b s := ⟨Blk.later h.p hb, h.b.kept hb⟩
theorem RPk.kept (h : RPk w p b s) (hb : Below w.heap.size w w') : RPk w' p b s := ⟨Blk.later h.p hb, h.b.kept hb⟩
theorem Pk.only {F : Nat → Prop} (h : Pk w p b s) (hb : Only F w w') (h1 : ¬ F p) (h2 : ¬ F b) : Pk w' p b s := ⟨Blk.only h.p hb h1, Blk.only h.b hb h2⟩
theorem RPk.only {F : Nat → Prop} (h : RPk w p b s) (hb : Only F w w') (h1 : ¬ F p) (h2 : ¬ F b) : RPk w' p b s := ⟨Blk.only h.p hb h1, Blk.only h.b hb h2⟩
theorem Pk.drew (h : Pk w p b s) : Pk w.drew p b s := ⟨h.p, h.b⟩
theorem RPk.drew (h : RPk w p b s) : RPk w.drew p b s := ⟨h.p, h.b⟩
theorem Pk.drewN (h : Pk w p b s) (n : Nat) : Pk (w.drewN n) p b s := ⟨h.p, h.b⟩
theorem RPk.drewN (h : RPk w p b s) (n : Nat) : RPk (w.drewN n) p b s := ⟨h.p, h.b⟩
theorem Pk.ne (h : Pk w p b s) : p ≠ b := Blk.ne_ h.p h.b (by decide)
theorem RPk.ne (h : RPk w p b s) : p ≠ b := Blk.ne_ h.p h.b (by decide)
end

end Go.Proofs.Ytniiemmgcjkphaa

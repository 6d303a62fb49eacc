/- New networks; the acts of a law, one after the other. -/
import Derived.Test.YtiindnmelegkgaaD4
namespace Go.Proofs.Ytiindnmelegkgaa
open Go.RowKit Go.Shelf
set_option linter.unusedSimpArgs false
set_option linter.unusedVariables false

def RN0 : RNet := ⟨[], [], [], [], .slice none 0 0, .slice none 0 0, .slice none 0 0, .slice none 0 0⟩
theorem RN0_ok (w : World) : ROk w RN0 := ⟨World.ownsRow_nil _ _ _ _, World.ownsRow_nil _ _ _ _, World.ownsRow_nil _ _ _ _, World.ownsRow_nil _ _ _ _, by simp [RN0], by simp [RN0], by simp [RN0], by simp [RN0]⟩
theorem RN0_rb (b : Nat) : ¬ RB RN0 b := by
  rintro (h | h | h | h | ⟨x, hx, _⟩ | ⟨x, hx, _⟩)
  · cases h
  · cases h
  · cases h
  · cases h
  · cases hx
  · cases hx
theorem RN0_pair : Pair A0 RN0.abs 0 := Pair.zero
def hold0 (w : World) : Hold := ⟨[], w, fun _ => False⟩
theorem PS.new (w : World) : PS (hold0 w) w w.heap.size A0 RN0 [] (w.alloc (.cells #[.slice none 0 0, .slice none 0 0, .slice none 0 0, .map none, .int .i64 0] 29)) := by
  obtain ⟨ρ, N, R, hA, hk, h0, hb⟩ := KS.new w
  exact ⟨ρ, N, R, hA, by simp, h0, hb, RN0_ok _, fun b hb => absurd hb (RN0_rb b), List.nil_prefix, fun b hb => False.elim hb⟩
theorem PS.base {H : Hold} {w0 w0' w : World} {p : Nat} {A : Abs} {RN : RNet} {kept : List (Nat × Obj)} (h : PS H w0 p A RN kept w) (hb : Below w0'.heap.size w0' w0) : PS H w0' p A RN kept w := by
  obtain ⟨ρ, N, R, hA, hk, h0, hb0, h1, h2, hH⟩ := h
  exact ⟨ρ, N, R, hA, hk, fun b h => h0 b (Nat.lt_of_lt_of_le h hb.size), hb.trans (hb0.mono hb.size), h1, h2, hH⟩
/-- The state behind some acts: the network's pointer, the reference in a box. -/
def LSt (H : Hold) (w0 : World) (B i : Nat) (kept : List (Nat × Obj)) (nv : Value) (wr : World) : Prop :=
  ∃ (p : Nat) (A : Abs) (RN : RNet), nv = .pointer (some ⟨p, 0, none⟩) ∧ Pair A RN.abs i ∧ PS H w0 p A RN ((B, .cells #[RN.va, RN.vh, RN.ve, RN.vb] 64 (0, 0)) :: kept) wr
end Go.Proofs.Ytiindnmelegkgaa

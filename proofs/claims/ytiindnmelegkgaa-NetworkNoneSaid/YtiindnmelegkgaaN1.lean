/- A nil network: what it shows. -/
import Derived.Test.YtiindnmelegkgaaD5
namespace Go.Proofs.Ytiindnmelegkgaa
open Go.RowKit Go.Shelf
set_option linter.unusedSimpArgs false
set_option linter.unusedVariables false

theorem copy_nil (w : World) : Calls Try.prog 32 #[.pointer none] w fun e w' => e = .returned (.pointer none) ∧ w = w' := by
  go_enter Try.func32, Try.ntmps32
  go_wp2
  go_ret
  exact ⟨rfl, rfl⟩
set_option maxRecDepth 100000 in
theorem flight_nil (w : World) : Calls Try.prog 22 #[.pointer none] w fun e w' => e = .returned (.func (.func 43) #[] #[.pointer (some ⟨w.heap.size, 0, none⟩)]) ∧ w.alloc (.cells #[.slice none 0 0] 24) = w' := by
  go_enter Try.func22, Try.ntmps22
  go_wp2
  go_ret
  exact ⟨rfl, rfl⟩
theorem history_nil (w : World) : Calls Try.prog 28 #[.pointer none] w fun e w' => e = .returned (.func (.func 53) #[] #[.pointer (some ⟨w.heap.size, 0, none⟩)]) ∧ w.alloc (.cells #[.slice none 0 0] 25) = w' := by
  go_enter Try.func28, Try.ntmps28
  go_wp2
  go_ret
  exact ⟨rfl, rfl⟩
theorem events_nil (w : World) : Calls Try.prog 23 #[.pointer none] w fun e w' => e = .returned (.func (.func 61) #[] #[.pointer (some ⟨w.heap.size, 0, none⟩)]) ∧ w.alloc (.cells #[.slice none 0 0] 26) = w' := by
  go_enter Try.func23, Try.ntmps23
  go_wp2_with fail
  refine (all44 _ _ _ _).mono ?_
  rintro e w1 ⟨rfl, rfl⟩
  go_wp2
  go_ret
  exact ⟨rfl, rfl⟩
theorem seen_nil (w : World) : Seen (.pointer none) A0 w := by
  refine ⟨fun ww hw => ?_, fun ww hw => ?_, fun ww hw => ?_, fun ww hw x hx => by simp [A0] at hx, fun ww hw x hx => by simp [A0] at hx⟩
  · refine (flight_nil ww).mono ?_
    rintro e w' ⟨rfl, rfl⟩
    exact ⟨⟨⟨_, .slice none 0 0, [], rfl, ⟨new_at rfl, Nat.le_refl _, World.ownsRow_nil _ _ _ _, by simp [Value.ownBlock], rfl, by simp, by simp⟩, by simp⟩⟩, (Below.refl _ _).alloc (Nat.le_refl _) _⟩
  · refine (history_nil ww).mono ?_
    rintro e w' ⟨rfl, rfl⟩
    exact ⟨⟨⟨_, .slice none 0 0, [], rfl, ⟨new_at rfl, Nat.le_refl _, World.ownsRow_nil _ _ _ _, by simp [Value.ownBlock]⟩, rfl, by simp, by simp⟩⟩, (Below.refl _ _).alloc (Nat.le_refl _) _⟩
  · refine (events_nil ww).mono ?_
    rintro e w' ⟨rfl, rfl⟩
    exact ⟨⟨_, .slice none 0 0, rfl, Nat.le_refl _, new_at rfl, World.ownsRow_nil _ _ _ _, by simp [Value.ownBlock]⟩, (Below.refl _ _).alloc (Nat.le_refl _) _⟩

theorem drop_nilq (id : Int) (w : World) : Calls Try.prog 18 #[.pointer none, .int .i64 id] w fun e w' => e = .returned (.int .i64 1) ∧ w = w' := by
  go_enter Try.func18, Try.ntmps18
  go_wp2_with fail
  refine (index_nil _ _).mono ?_
  rintro e w1 ⟨rfl, rfl⟩
  go_wp2
  go_ret
  exact ⟨rfl, rfl⟩
theorem alter_nilq (id off m : Int) (w : World) : Calls Try.prog 19 #[.pointer none, .int .i64 id, .int .i64 off, .int .u8 m] w fun e w' => e = .returned (.int .i64 1) ∧ w = w' := by
  go_enter Try.func19, Try.ntmps19
  go_wp2_with fail
  refine (index_nil _ _).mono ?_
  rintro e w1 ⟨rfl, rfl⟩
  go_wp2
  go_ret
  exact ⟨rfl, rfl⟩
theorem redirect_nilq (id : Int) (tw : ByteArray) (w : World) : Calls Try.prog 20 #[.pointer none, .int .i64 id, .string tw] w fun e w' => e = .returned (.int .i64 1) ∧ w = w' := by
  go_enter Try.func20, Try.ntmps20
  go_wp2_with fail
  refine (index_nil _ _).mono ?_
  rintro e w1 ⟨rfl, rfl⟩
  go_wp2
  go_ret
  exact ⟨rfl, rfl⟩
end Go.Proofs.Ytiindnmelegkgaa

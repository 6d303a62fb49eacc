/- The iterators of a network in plain words. -/
import Derived.Test.YtiindnmelegkgaaC3
import Derived.Test.YtiindnmelegkgaaC5
namespace Go.Proofs.Ytiindnmelegkgaa
open Go.RowKit Go.Shelf
set_option linter.unusedSimpArgs false
set_option linter.unusedVariables false

/-- An iterator over packets in flight, and what is known of the bytes that it copies. -/
structure FlIt (w' : World) (base : Nat) (fl : List AFl) (e : Ending) : Prop where
  seq : ∃ B v L, e = .returned (.func (.func 43) #[] #[.pointer (some ⟨B, 0, none⟩)]) ∧ FlSeq w' base fl B v L ∧ ∀ x ∈ L, x.p.bs.length ≤ 65536
section
variable {w0 w : World} {p : Nat} {A : Abs} {kept : List (Nat × Obj)}
theorem KS.flightA (h : KS w0 p A kept w) (T : Tiny A) : Calls Try.prog 22 #[.pointer (some ⟨p, 0, none⟩)] w fun e w' => FlIt w' w.heap.size A.fl e ∧ KS w0 p A kept w' ∧ Below w.heap.size w w' := by
  have h' := h
  obtain ⟨ρ, N, R, rfl, _⟩ := h'
  refine (flight_any R T.small).mono ?_
  rintro e w' ⟨⟨B, v, L, rfl, hF⟩, hb⟩
  refine ⟨⟨B, v, L, rfl, hF, fun x hx => ?_⟩, h.stays hb, hb⟩
  have hm : x.abs ∈ N.fl.map Fl.abs := by rw [← hF.abs]; exact List.mem_map_of_mem hx
  obtain ⟨y, hy, e⟩ := List.mem_map.1 hm
  have hv := R.fok y hy
  simp only [validB, Bool.and_eq_true, decide_eq_true_eq] at hv
  have : y.p.bs = x.p.bs := congrArg AFl.bs e
  rw [← this]
  exact hv.2
theorem KS.eventsA (h : KS w0 p A kept w) (T : Tiny A) : Calls Try.prog 23 #[.pointer (some ⟨p, 0, none⟩)] w fun e w' => EvSeq w w' A.evs e ∧ KS w0 p A kept w' ∧ Below w.heap.size w w' := by
  have h' := h
  obtain ⟨ρ, N, R, rfl, _⟩ := h'
  exact (events_any R T.small).mono fun e w' he => ⟨he, h.stays he.2, he.2⟩
end
end Go.Proofs.Ytiindnmelegkgaa

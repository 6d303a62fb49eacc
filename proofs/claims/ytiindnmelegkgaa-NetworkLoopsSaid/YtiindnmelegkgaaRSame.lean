/- ref.Same; Events. -/
import Derived.Test.YtiindnmelegkgaaBlock
import Derived.Laws.BytesArg
namespace Go.Proofs.Ytiindnmelegkgaa
open Go.RowKit
set_option linter.unusedSimpArgs false
set_option linter.unusedVariables false

theorem u5 : Try.prog.underlying 5 = some (.int .u8) := by kernel_rfl
theorem conv33 {w : World} {v : Value} {bs : List Int} (h : rdB w v bs) : (convert 33 9 v).run Try.prog w = .ok (.string (strOfNums bs)) w := by
  rcases h.2 with ⟨rfl, rfl⟩ | ⟨b, off, c, rfl, _, hc⟩ | ⟨rfl, a, c, rfl⟩
  · exact run_convert_bytes_nil w 33 5 u33 u5 0 0 9 u9
  · exact run_convert_bytes_arg w 33 5 u33 u5 b off bs.length c bs rfl (fun i hi => hc i _ (by simp [List.getD, List.getElem?_eq_getElem hi])) 9 u9
  · have hl : (loadCells a 0).run Try.prog w = .ok #[] w := by
      have := run_loadCells_list (P := Try.prog) w a [] (fun j v hj => by simp at hj)
      simpa using this
    rw [run_convert_bytes_string w 33 9 5 _ 0 c u33 u5 u9]
    simp [Conv.bytesToString, Sem.run_bind, hl, strOfNums]
    rfl

/-- Two packets are equal, by their bytes as strings. -/
def sameS (a b : Pk) : Bool := (a.frm.toList == b.frm.toList) && (a.to.toList == b.to.toList) && ((strOfNums a.bs).toList == (strOfNums b.bs).toList)

set_option maxRecDepth 100000 in
theorem rsame_any (a b : Pk) (w : World) (ha : rdB w a.bv a.bs) (hb : rdB w b.bv b.bs) : Calls Try.prog 29 #[a.val, b.val] w fun e w' => e = .returned (.bool (sameS a b)) ∧ Below w.heap.size w w' := by
  obtain ⟨W, hW⟩ : ∃ W, W = (w.alloc (.cells #[.string a.frm, .string a.to, a.bv] 35)).alloc (.cells #[.string b.frm, .string b.to, b.bv] 35) := ⟨_, rfl⟩
  have b0 : Below w.heap.size w W := by rw [hW]; exact ((Below.refl _ _).alloc (Nat.le_refl _) _).alloc (by simp) _
  have q1 := conv33 (ha.below b0)
  have q2 := conv33 (hb.below b0)
  rw [hW] at q1 q2
  obtain ⟨a1, n1, c1, hv1, -⟩ := ha.lt
  obtain ⟨a2, n2, c2, hv2, -⟩ := hb.lt
  have HB := Lib.hid b0
  have HW := Lib.hid hW
  clear ha hb b0 hW
  obtain ⟨af, at_, av, abs⟩ := a
  obtain ⟨bf, bt, bv, bbs⟩ := b
  dsimp only at *
  subst hv1
  subst hv2
  unfold Pk.val sameS
  dsimp only
  cases h1 : (af.toList == bf.toList)
  · go_enter Try.func29, Try.ntmps29
    go_wp2
    go_ret
    refine ⟨by simp, ?_⟩
    rw [← HW.out]
    exact HB.out
  · cases h2 : (at_.toList == bt.toList)
    · go_enter Try.func29, Try.ntmps29
      go_wp2
      go_ret
      refine ⟨by simp, ?_⟩
      rw [← HW.out]
      exact HB.out
    · go_enter Try.func29, Try.ntmps29
      go_wp2
      go_ret
      refine ⟨by simp, ?_⟩
      rw [← HW.out]
      exact HB.out
end Go.Proofs.Ytiindnmelegkgaa

/- DriftNone returns true for every input: the results for nil and zero clocks. -/
import Derived.Test.YtjdefiiinameiaaNil
import Derived.Test.YtjdefiiinameiaaLawKit
namespace Go.Proofs.Ytjdefiiinameiaa.driftNone
open Go.ChangeShapes Go.WideShapes Go.ChangeAt Go.RowKit
set_option linter.unusedVariables false

/-- The world at the loop's head: a zero clock, and the slice of two clocks. -/
def two (w : World) : World := (w.alloc (.cells #[.int .i64 0, .int .i64 0, .int .i64 0, .bool false] 54)).alloc (.cells #[.pointer none, .pointer (some ⟨w.heap.size, 0, none⟩)] 22)
theorem two_below (w : World) : Below w.heap.size w (two w) := ((Below.refl _ _).alloc (Nat.le_refl _) _).alloc (by simp) _
def pick (w : World) (k : Nat) : Option Addr := if k = 0 then none else some ⟨w.heap.size, 0, none⟩
theorem two_size (w : World) : (two w).heap.size = w.heap.size + 2 := by simp [two]
theorem two_pick (w : World) (k : Nat) (hk : k < 2) {w' : World} (hb : Below (two w).heap.size (two w) w') : w'.cell? ⟨w.heap.size + 1, k, none⟩ = some (.pointer (pick w k)) ∧ Nil w' (pick w k) := by
  have hz := two_size w
  have hz' := hb.size
  constructor
  · rw [hb.cell (by show w.heap.size + 1 < (two w).heap.size; omega)]
    match k, hk with
    | 0, _ => simp [two, pick]
    | 1, _ => simp [two, pick]
  · match k, hk with
    | 0, _ => exact .inl rfl
    | 1, _ =>
      refine .inr ⟨w.heap.size, rfl, by omega, ?_⟩
      rw [hb.cell (by show w.heap.size < (two w).heap.size; omega)]
      simp [two]

set_option maxRecDepth 100000 in
set_option maxHeartbeats 2000000 in
theorem walk (t d : Int) (w : World) :
    Calls Try.prog 7 #[.int .i64 t, .int .i64 d] w fun e w' => e = .returned (.bool true) ∧ Below w.heap.size w w' := by
  have o : Okc 0 0 0 := ⟨by omega, by omega, by omega, by omega, by omega, by omega⟩
  go_enter Try.func7, Try.ntmps7
  go_wp2_with fail
  refine (new_ok o w).mono ?_
  rintro e w1 ⟨b, rfl, hbB, h1, hb1⟩
  go_wp2_with fail
  have htw := two_below w1
  have h2 := h1.below htw
  go_loopw [33] (fun v wr => ∃ k : Nat, v = .int .i64 k ∧ k ≤ 2 ∧ Below (two w1).heap.size (two w1) wr) (fun v _ => 2 - (intOf v).toNat)
  case atStart => exact ⟨0, rfl, by omega, Below.refl _ _⟩
  case round =>
    obtain ⟨k, rfl, hk, hb⟩ := hrel
    have hall := hb1.trans ((htw.trans (hb.mono htw.size)).mono hb1.size)
    by_cases hlt : k < 2
    · obtain ⟨hc, hn⟩ := two_pick w1 k hlt hb
      generalize pick w1 k = a at hc hn
      have h3 := h2.below hb
      clear htw hall
      go_wp2_with fail
      refine (nil_show hn t).mono ?_
      rintro e w3 ⟨rfl, rfl⟩
      go_wp2_with fail
      refine (nil_dev hn t).mono ?_
      rintro e w3 ⟨rfl, rfl⟩
      go_wp2_with fail
      refine (nil_exc hn t d).mono ?_
      rintro e w3 ⟨rfl, hb3⟩
      have hn3 := hn.below hb3
      have h4 := h3.below hb3
      have hb4 := hb.trans (hb3.mono hb.size)
      clear hc hn h3 hb3 hb
      go_wp2_with fail
      refine (nil_within hn3 _ t d).mono ?_
      rintro e w5 ⟨rfl, rfl⟩
      go_wp2_with fail
      refine (within_nil h4 hn3 t d).mono ?_
      rintro e w5 ⟨rfl, rfl⟩
      go_wp2_with fail
      refine (nil_step hn3 t d).mono ?_
      rintro e w5 ⟨rfl, rfl⟩
      go_wp2_with fail
      refine (nil_set hn3 t d).mono ?_
      rintro e w5 ⟨rfl, rfl⟩
      go_wp2_with fail
      refine (nil_copy hn3).mono ?_
      rintro e w5 ⟨rfl, rfl⟩
      go_wp2_with fail
      exact ⟨⟨k + 1, by go_num, by omega, hb4⟩, by simp [intOf]; omega⟩
    · clear htw h1 h2 hb1 hb
      go_wp2_with fail
      refine (known_any _).mono ?_
      rintro e w4 ⟨rfl, hb4⟩
      go_wp2_with fail
      go_ret
      exact ⟨rfl, hall.trans (hb4.mono hall.size)⟩

set_option maxRecDepth 100000 in
theorem lifted (os : Os) (started : os.Started) (H : Type) (enc : TypeId × Value → H) :
    ReturnsInHanded {} Try.checked os 7 .any (Rows.driftNoneSpec.pre6 enc Try.prog Try.f7 Rows.driftNoneRow.domain false) (Rows.driftNoneSpec.post enc Try.prog Try.f7 false true false false) := by
  refine returnsInHanded_of_change (C := Try.checked) own started (by kernel_rfl) Try.func7
    (ChangeSpec.witness6 (enc := enc) (C := Try.checked) false ⟨#[], #[.int .i64 0, .int .i64 0], []⟩ 8 (by kernel_rfl) (by kernel_rfl) (by kernel_rfl) (by kernel_rfl)) ?_
  intro W base args ds gs before hval0 hW hcnd _
  have hval : ∀ (j : Nat) t v, Try.f7.params[j]? = some t → args[j]? = some v → Value.okWide Try.prog W .any base t v := hval0
  have hW' := hW
  obtain ⟨p, q, hA0, hV, rfl, hfz, hnd⟩ := hW
  have hA : DataW.TrodAll enc Try.prog W 0 (fun _ => true) true Try.f7.params.toList args.toList ds p := hA0
  rw [Try.params7] at hA hval
  obtain ⟨v0, vs0, d0, ds0, p0, q0, hargs, rfl, rfl, h0, r0⟩ := trodAll_cons hA
  obtain ⟨v1, vs1, d1, ds1, p1, q1, rfl, rfl, rfl, h1, r1⟩ := trodAll_cons r0
  obtain ⟨rfl, rfl, rfl⟩ := trodAll_nil r1
  obtain rfl : args = #[v0, v1] := by cases args; simp_all
  obtain ⟨a0, rfl, rfl, rfl, w0⟩ := open_int Try.underlying3 (hval 0 3 v0 rfl rfl) h0
  obtain ⟨a1, rfl, rfl, rfl, w1⟩ := open_int Try.underlying3 (hval 1 3 v1 rfl rfl) h1
  refine (walk a0 a1 W).mono fun e W' ⟨he, hb⟩ => ?_
  subst he
  exact ⟨_, rfl, law_post rfl (by kernel_rfl) (by rw [Try.params7]; intro t ht; simp at ht; subst ht; exact ⟨by kernel_rfl, of_decide_eq_true (by kernel_rfl)⟩) rfl rfl rfl hW' hb⟩

theorem over : Rows.driftNoneRow.holds Try.pinned (OpenSpec.ofChange Rows.driftNoneSpec) :=
  OpenClaim.holds_of_wide 7 Try.f7 rfl rfl rfl rfl rfl rfl rfl ⟨rfl, rfl, rfl, rfl, rfl⟩ rfl rfl rfl rfl rfl (by kernel_rfl) Try.func7 (by kernel_rfl)
    (of_decide_eq_true (by kernel_rfl)) (by unfold Func.isWrapper; first | (rw [if_pos (by decide +kernel)]; kernel_rfl) | (rw [if_neg (by decide +kernel)]; exact ⟨rfl, rfl⟩))
    (fun os started H enc _ => lifted os started H enc)

/-- THE STATEMENT -/
theorem proved : Rows.DriftNoneSaid :=
  over
#print axioms proved
end Go.Proofs.Ytjdefiiinameiaa.driftNone

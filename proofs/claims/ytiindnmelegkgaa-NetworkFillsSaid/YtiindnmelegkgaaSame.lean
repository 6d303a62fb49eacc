/- Equal, same, Genuine, ref.Same. -/
import Derived.Test.YtiindnmelegkgaaAlt2
namespace Go.Proofs.Ytiindnmelegkgaa
open Go.RowKit
set_option linter.unusedSimpArgs false
set_option linter.unusedVariables false

theorem rdB_at {w : World} {v : Value} {bs : List Int} (h : rdB w v bs) (hn : 0 < bs.length) : ∃ b off c, v = .slice (some ⟨b, off, none⟩) bs.length c ∧ b < w.heap.size ∧ ∀ j u, bs[j]? = some u → w.cell? ⟨b, off + j, none⟩ = some (.int .u8 u) := by
  rcases h.2 with ⟨_, h0⟩ | ⟨b, off, c, h1, h2, h3⟩
  · rw [h0] at hn; simp at hn
  · exact ⟨b, off, c, h1, h2, fun j u hu => h3 j _ (by simp [hu])⟩

set_option maxHeartbeats 1000000 in
set_option maxRecDepth 100000 in
theorem equal_any (v1 v2 : Value) (xs ys : List Int) (w : World) (h1 : rdB w v1 xs) (h2 : rdB w v2 ys) : Calls Try.prog 60 #[v1, v2] w fun e w' => e = .returned (.bool (decide (xs = ys))) ∧ Below w.heap.size w w' := by
  have hl1 := h1.1
  have hl2 := h2.1
  obtain ⟨n1, e1⟩ : ∃ n, xs.length = n := ⟨_, rfl⟩
  obtain ⟨n2, e2⟩ : ∃ n, ys.length = n := ⟨_, rfl⟩
  by_cases hne : n1 = n2
  · subst hne
    rcases Nat.eq_zero_or_pos n1 with h0 | h0
    · obtain ⟨a1, m1, c1, hv1, hm1⟩ := h1.lt
      obtain ⟨a2, m2, c2, hv2, hm2⟩ := h2.lt
      have hx : xs = [] := List.length_eq_zero_iff.1 (by omega)
      have hy : ys = [] := List.length_eq_zero_iff.1 (by omega)
      subst hx
      subst hy
      simp at hm1 hm2
      subst hm1
      subst hm2
      subst hv1
      subst hv2
      clear h1 h2 hl1 hl2 e1 e2 h0
      go_enter Try.func60, Try.ntmps60
      go_wp2
      go_loopw [13] (fun q wr => q = .int .i64 0 ∧ Below w.heap.size w wr) (fun _ _ => 0)
      case atStart => exact ⟨rfl, Below.refl _ _⟩
      case round =>
        obtain ⟨rfl, hb⟩ := hrel
        go_wp2
        go_ret
        exact ⟨rfl, hb⟩
    · obtain ⟨b1, o1, c1, hv1, hb1, hc1⟩ := rdB_at h1 (by omega)
      obtain ⟨b2, o2, c2, hv2, hb2, hc2⟩ := rdB_at h2 (by omega)
      rw [e1] at hv1 hl1
      rw [e2] at hv2
      subst hv1
      subst hv2
      have H1 := Lib.hid hc1
      have H2 := Lib.hid hc2
      have E1 := Lib.hid e1
      have E2 := Lib.hid e2
      clear h1 h2 hc1 hc2 e1 e2 hl2
      go_enter Try.func60, Try.ntmps60
      go_wp2
      go_loopw [13] (fun q wr => ∃ k : Nat, q = .int .i64 k ∧ k ≤ n1 ∧ (∀ j, j < k → xs[j]? = ys[j]?) ∧ Below w.heap.size w wr) (fun q _ => n1 - (intOf q).toNat)
      case atStart => exact ⟨0, rfl, by omega, fun j h => by omega, Below.refl _ _⟩
      case round =>
        obtain ⟨k, rfl, hk, hI, hb⟩ := hrel
        have HI := Lib.hid hI
        clear hI
        by_cases hkn : k < n1
        · obtain ⟨x, hx⟩ : ∃ x, xs[k]? = some x := ⟨xs[k]'(by rw [E1.out]; exact hkn), List.getElem?_eq_getElem _⟩
          obtain ⟨y, hy⟩ : ∃ y, ys[k]? = some y := ⟨ys[k]'(by rw [E2.out]; exact hkn), List.getElem?_eq_getElem _⟩
          have m1 : wr.cell? ⟨b1, o1 + k, none⟩ = some (.int .u8 x) := (hb.cell (p := ⟨b1, o1 + k, none⟩) hb1).trans (H1.out k x hx)
          have m2 : wr.cell? ⟨b2, o2 + k, none⟩ = some (.int .u8 y) := (hb.cell (p := ⟨b2, o2 + k, none⟩) hb2).trans (H2.out k y hy)
          have HX := Lib.hid hx
          have HY := Lib.hid hy
          clear hx hy
          by_cases hxy : x = y
          · subst hxy
            go_wp2
            refine wp_region_still (by kernel_rfl) (by kernel_rfl) ?_
            iterate 9 (refine still_step rfl ?_; apply Exists.intro; refine ⟨?_, ?_⟩; (focus (unfold calmAt calmUpon; go_simp; rfl)); (simp only [Act.put, List.setIfInBounds_toArray, List.set_cons_succ, List.set_cons_zero]))
            refine calm_nil ?_
            go_wp2
            go_roundw
            case rel => exact ⟨k + 1, by simp, by omega, fun j hj => by
              rcases Nat.lt_or_ge j k with h | h
              · exact HI.out j h
              · obtain rfl : j = k := by omega
                rw [HX.out, HY.out], hb.drew⟩
            case measure => simp [intOf]; omega
          · have hd : xs ≠ ys := fun e => by
              have := HX.out
              rw [e, HY.out] at this
              exact hxy (Option.some.inj this).symm
            have hxb : (x == y) = false := by simpa using hxy
            go_wp2
            refine wp_region_still (by kernel_rfl) (by kernel_rfl) ?_
            iterate 9 (refine still_step rfl ?_; apply Exists.intro; refine ⟨?_, ?_⟩; (focus (unfold calmAt calmUpon; go_simp; rfl)); (simp only [Act.put, List.setIfInBounds_toArray, List.set_cons_succ, List.set_cons_zero]))
            refine calm_nil ?_
            go_wp2
            go_ret
            exact ⟨by simp [hd], hb.drew⟩
        · have hkn' : k = n1 := by omega
          subst hkn'
          have hd : xs = ys := by
            apply List.ext_getElem?
            intro j
            rcases Nat.lt_or_ge j k with h | h
            · exact HI.out j h
            · rw [List.getElem?_eq_none (by rw [E1.out]; exact h), List.getElem?_eq_none (by rw [E2.out]; exact h)]
          go_wp2
          go_ret
          exact ⟨by simp [hd], hb⟩
  · obtain ⟨a1, m1, c1, hv1, hm1⟩ := h1.lt
    obtain ⟨a2, m2, c2, hv2, hm2⟩ := h2.lt
    have hd : xs ≠ ys := fun e => hne (by rw [← e1, ← e2, e])
    rw [e1] at hm1
    rw [e2] at hm2
    subst hm1
    subst hm2
    subst hv1
    subst hv2
    have hd' : decide (xs = ys) = false := by simpa using hd
    rw [hd']
    clear h1 h2 hl1 hl2 e1 e2 hd hd'
    go_enter Try.func60, Try.ntmps60
    go_wp2
    go_ret
    exact ⟨rfl, Below.refl _ _⟩
end Go.Proofs.Ytiindnmelegkgaa

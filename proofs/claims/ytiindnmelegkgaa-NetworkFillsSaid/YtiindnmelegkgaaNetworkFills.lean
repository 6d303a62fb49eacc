/- NetworkFills returns true for every input. -/
import Derived.Test.YtiindnmelegkgaaKnown
import Derived.Test.YtiindnmelegkgaaLawKit
namespace Go.Proofs.Ytiindnmelegkgaa.networkFills
open Go.ChangeShapes Go.WideShapes Go.ChangeAt Go.RowKit
set_option linter.unusedVariables false
set_option linter.unusedSimpArgs false

def okB (c b : Int) : Bool := decide (0 ≤ c) && decide (c ≤ 1100) && decide (2 ≤ b) && decide (b ≤ 30)

def qp : Pk := ⟨{ data := #[97] }, { data := #[98] }, .slice none 0 0, []⟩
theorem rd0 (w : World) : rdB w (.slice none 0 0) [] := ⟨by simp, .inl ⟨rfl, rfl⟩⟩
/-- What holds between two rounds. -/
structure Inv (w wr : World) (p : Nat) (A : Abs) (i : Nat) : Prop where
  ks : KS w p A [] wr
  bl : A.bl = fun _ _ => false
  cnt : A.cnt = 0
  next : A.next = A.hist.length
  ni : A.next ≤ i
  evs : A.evs.length ≤ 2 * i
  fl : A.fl.length ≤ A.next
  ids : ∀ x ∈ A.fl, x.id < A.next
theorem Inv.tiny {w wr : World} {p : Nat} {A : Abs} {i : Nat} (h : Inv w wr p A i) (hi : i ≤ 1100) : Tiny A :=
  ⟨by have := h.ni; omega, by have := h.evs; omega, by have := h.fl; have := h.ni; omega, by have := h.next; have := h.ni; omega, by rw [h.cnt]; decide⟩

set_option maxHeartbeats 2000000 in
set_option maxRecDepth 100000 in
theorem walk_ok (c b : Int) (w : World) (h1 : 0 ≤ c) (h2 : c ≤ 1100) (h3 : 2 ≤ b) (h4 : b ≤ 30) :
    Calls Try.prog 3 #[.int .i64 c, .int .i64 b] w fun e w' => e = .returned (.bool true) ∧ Below w.heap.size w w' := by
  obtain ⟨n, rfl⟩ : ∃ n : Nat, c = n := ⟨c.toNat, by omega⟩
  go_enter Try.func3, Try.ntmps3
  go_wp2_with fail
  go_loopw [6, 7, 8, 9] (fun f s x i wr => ∃ (A : Abs) (k : Nat), f = .int .i64 (A.fl.length : Int) ∧ s = .int .i64 (A.hist.length : Int) ∧ x = .int .i64 (A.next : Int) ∧ i = .int .i64 (k : Int) ∧ k ≤ n ∧ Inv w wr w.heap.size A k) (fun _ _ _ i _ => n - (intOf i).toNat)
  case atStart => exact ⟨A0, 0, rfl, rfl, rfl, rfl, by omega, KS.new w, rfl, rfl, rfl, by decide, by decide, by decide, by simp [A0]⟩
  case round =>
    obtain ⟨A, k, rfl, rfl, rfl, rfl, hk, hI⟩ := hrel
    by_cases hlt : k < n
    · have T := hI.tiny (by omega)
      by_cases hful : 64 ≤ A.fl.length ∨ 1024 ≤ A.hist.length
      · have c := hI.ks.full T qp (rd0 _) (by simp [validB, hostB, qp, ByteArray.size]) hful
        unfold qp Pk.val at c
        have HC := Lib.hid c
        have HI := Lib.hid hI
        clear c T hI
        obtain ⟨m1, hm1⟩ : ∃ m, A.fl.length = m := ⟨_, rfl⟩
        obtain ⟨m2, hm2⟩ : ∃ m, A.hist.length = m := ⟨_, rfl⟩
        obtain ⟨m3, hm3⟩ : ∃ m, A.next = m := ⟨_, rfl⟩
        rw [hm1, hm2] at hful
        simp only [hm1, hm2, hm3]
        have M1 := Lib.hid hm1
        have M2 := Lib.hid hm2
        have M3 := Lib.hid hm3
        clear hm1 hm2 hm3
        have fin : ∀ w1, KS w w.heap.size A [] w1 → Inv w w1 w.heap.size A (k + 1) := fun w1 ks => ⟨ks, HI.out.bl, HI.out.cnt, HI.out.next, Nat.le_succ_of_le HI.out.ni, by have := HI.out.evs; omega, HI.out.fl, HI.out.ids⟩
        have FIN := Lib.hid fin
        clear fin
        by_cases hf : 64 ≤ m1
        · go_wp2_with fail
          refine HC.out.mono ?_
          rintro e w1 ⟨rfl, ks⟩
          go_wp2_with fail
          go_roundw
          case rel => exact ⟨A, k + 1, by rw [M1.out], by rw [M2.out], by rw [M3.out], by simp, by omega, FIN.out _ ks⟩
          case measure => simp [intOf]; omega
        · have hf2 : 1024 ≤ m2 := by omega
          go_wp2_with fail
          refine HC.out.mono ?_
          rintro e w1 ⟨rfl, ks⟩
          go_wp2_with fail
          go_roundw
          case rel => exact ⟨A, k + 1, by rw [M1.out], by rw [M2.out], by rw [M3.out], by simp, by omega, FIN.out _ ks⟩
          case measure => simp [intOf]; omega
      · obtain ⟨w2, ks2, c2⟩ := hI.ks.send T qp (rd0 _) (fun b hb => by cases hb) (by simp [validB, hostB, qp, ByteArray.size]) (by omega) (by omega)
        unfold qp Pk.val at c2
        obtain ⟨A2, hA2⟩ : ∃ A2, A2 = ({ A with fl := A.fl ++ [⟨qp.frm, qp.to, qp.bs, A.next, A.hist.length⟩], hist := A.hist ++ [qp.abs], evs := A.evs ++ [⟨1, A.next, -1⟩], next := A.next + 1 } : Abs) := ⟨_, rfl⟩
        have ks2' : KS w w.heap.size A2 [] w2 := by rw [hA2]; exact ks2
        have i2 : Inv w w2 w.heap.size A2 (k + 1) := by
          subst hA2
          refine ⟨ks2', hI.bl, hI.cnt, by simp [hI.next], Nat.succ_le_succ hI.ni, by have := hI.evs; simp; omega, by have := hI.fl; simp; omega, fun x hx => ?_⟩
          rcases List.mem_append.1 hx with hx | hx
          · exact Nat.lt_succ_of_lt (hI.ids x hx)
          · simp at hx; subst hx; exact Nat.lt_succ_self _
        have T2 : Tiny A2 := i2.tiny (by omega)
        have hits : AHits A2 (A.next : Int) A.fl.length ⟨qp.frm, qp.to, qp.bs, A.next, A.hist.length⟩ := by
          subst hA2
          exact ⟨by simp, rfl⟩
        have dl := ks2'.deliver T2 hits (by rw [i2.bl])
        have e1 : A2.fl.length = A.fl.length + 1 := by rw [hA2]; simp
        have e2 : A2.hist.length = A.hist.length + 1 := by rw [hA2]; simp
        have e3 : A2.next = A.next + 1 := by rw [hA2]
        have fin : ∀ w1, KS w w.heap.size { A2 with fl := A2.fl.eraseIdx A.fl.length, evs := A2.evs ++ [⟨2, (A.next : Nat), -1⟩] } [] w1 → Inv w w1 w.heap.size { A2 with fl := A.fl, evs := A2.evs ++ [⟨2, (A.next : Nat), -1⟩] } (k + 1) := fun w1 ks => by
          have he : A2.fl.eraseIdx A.fl.length = A.fl := by rw [hA2]; simp [List.eraseIdx_append_of_length_le]
          rw [he] at ks
          refine ⟨ks, i2.bl, i2.cnt, i2.next, i2.ni, by rw [hA2]; have := hI.evs; simp; omega, by show A.fl.length ≤ A2.next; rw [e3]; have := hI.fl; omega, fun x hx => by show x.id < A2.next; rw [e3]; exact Nat.lt_succ_of_lt (hI.ids x hx)⟩
        obtain ⟨m1, hm1⟩ : ∃ m, A.fl.length = m := ⟨_, rfl⟩
        obtain ⟨m2, hm2⟩ : ∃ m, A.hist.length = m := ⟨_, rfl⟩
        obtain ⟨m3, hm3⟩ : ∃ m, A.next = m := ⟨_, rfl⟩
        have hl3 : m3 ≤ 1100 := by have := hI.ni; omega
        rw [hm1, hm2] at hful
        rw [hm3] at c2 dl fin e3
        rw [hm1] at e1
        rw [hm2] at e2
        simp only [hm1, hm2, hm3]
        have M1 := Lib.hid hm1
        have M2 := Lib.hid hm2
        have M3 := Lib.hid hm3
        have HC := Lib.hid c2
        have HD := Lib.hid dl
        have FIN := Lib.hid fin
        have I2 := Lib.hid i2
        have E1 := Lib.hid e1
        have E2 := Lib.hid e2
        have E3 := Lib.hid e3
        clear hm1 hm2 hm3 c2 dl fin i2 e1 e2 e3 hits T2 ks2' ks2 T hI hA2
        have hf1 : ¬ 64 ≤ m1 := by omega
        have hf2 : ¬ 1024 ≤ m2 := by omega
        have hb0 : ¬ b = 0 := by omega
        go_wp2_with fail
        refine HC.out.mono ?_
        rintro e w1 ⟨rfl, rfl⟩
        go_wp2_with fail
        case roundEnd =>
          go_roundw
          case rel => exact ⟨A2, k + 1, by rw [E1.out]; simp, by rw [E2.out]; simp, by rw [E3.out]; simp, by simp, by omega, I2.out⟩
          case measure => simp [intOf]; omega
        refine HD.out.mono ?_
        rintro e w3 ⟨q, rfl, hq, kq⟩
        have k3 := FIN.out w3 kq.ks
        obtain ⟨qf, qt, qb, qbs⟩ := q
        simp only [Pk.abs, APk.mk.injEq] at hq
        obtain ⟨rfl, rfl, rfl⟩ := hq
        obtain ⟨oa, on, oc, hob⟩ : ∃ a n c, qb = .slice a n c := by
          rcases kq.keep with ⟨h, _⟩ | ⟨g, cap, cur, h, _⟩
          · exact ⟨_, _, _, h⟩
          · exact ⟨_, _, _, h⟩
        subst hob
        clear kq
        unfold Pk.val
        dsimp only
        have K3 := Lib.hid k3
        clear k3
        go_wp2_with fail
        go_roundw
        case rel => exact ⟨{ A2 with fl := A.fl, evs := A2.evs ++ [⟨2, (m3 : Nat), -1⟩] }, k + 1, by simp [M1.out], by simp [E2.out], by simp [E3.out], by simp, by omega, ⟨(K3.out.ks.stays ((Below.refl _ _).alloc (Nat.le_refl _) _)), K3.out.bl, K3.out.cnt, K3.out.next, K3.out.ni, K3.out.evs, K3.out.fl, K3.out.ids⟩⟩
        case measure => simp [intOf]; omega
    · have hkn : k = n := by omega
      subst hkn
      go_wp2_with fail
      refine (known_any _).mono ?_
      rintro e w1 ⟨rfl, hb⟩
      go_wp2_with fail
      go_ret
      exact ⟨rfl, hI.ks.below.trans (hb.mono hI.ks.below.size)⟩

set_option maxRecDepth 100000 in
theorem walk_no (c b : Int) (w : World) (h : c < 0 ∨ 1100 < c ∨ b < 2 ∨ 30 < b) :
    Calls Try.prog 3 #[.int .i64 c, .int .i64 b] w fun e w' => e = .returned (.bool true) ∧ Below w.heap.size w w' := by
  by_cases h1 : c < 0
  · go_enter Try.func3, Try.ntmps3
    go_wp2_with fail
    refine (known_any _).mono ?_
    rintro e w4 ⟨rfl, hb4⟩
    go_wp2_with fail
    go_ret
    exact ⟨rfl, hb4⟩
  by_cases h2 : 1100 < c
  · go_enter Try.func3, Try.ntmps3
    go_wp2_with fail
    refine (known_any _).mono ?_
    rintro e w4 ⟨rfl, hb4⟩
    go_wp2_with fail
    go_ret
    exact ⟨rfl, hb4⟩
  by_cases h3 : b < 2
  · go_enter Try.func3, Try.ntmps3
    go_wp2_with fail
    refine (known_any _).mono ?_
    rintro e w4 ⟨rfl, hb4⟩
    go_wp2_with fail
    go_ret
    exact ⟨rfl, hb4⟩
  have h4 : 30 < b := by omega
  go_enter Try.func3, Try.ntmps3
  go_wp2_with fail
  refine (known_any _).mono ?_
  rintro e w4 ⟨rfl, hb4⟩
  go_wp2_with fail
  go_ret
  exact ⟨rfl, hb4⟩
set_option maxRecDepth 100000 in
theorem walk (c b : Int) (w : World) : Calls Try.prog 3 #[.int .i64 c, .int .i64 b] w fun e w' => e = .returned (.bool true) ∧ Below w.heap.size w w' := by
  by_cases h : c < 0 ∨ 1100 < c ∨ b < 2 ∨ 30 < b
  · exact walk_no c b w h
  · exact walk_ok c b w (by omega) (by omega) (by omega) (by omega)

set_option maxRecDepth 100000 in
theorem lifted (os : Os) (started : os.Started) (H : Type) (enc : TypeId × Value → H) :
    ReturnsInHanded {} Try.checked os 3 .any (Rows.networkFillsSpec.pre6 enc Try.prog Try.f3 Rows.networkFillsRow.domain false) (Rows.networkFillsSpec.post enc Try.prog Try.f3 false true false false) := by
  refine returnsInHanded_of_change (C := Try.checked) own started (by kernel_rfl) Try.func3
    (ChangeSpec.witness6 (enc := enc) (C := Try.checked) false ⟨#[], #[.int .i64 0, .int .i64 0], []⟩ 8 (by kernel_rfl) (by kernel_rfl) (by kernel_rfl) (by kernel_rfl)) ?_
  intro W base args ds gs before hval0 hW hcnd _
  have hval : ∀ (j : Nat) t v, Try.f3.params[j]? = some t → args[j]? = some v → Value.okWide Try.prog W .any base t v := hval0
  have hW' := hW
  obtain ⟨p, q, hA0, hV, rfl, hfz, hnd⟩ := hW
  have hA : DataW.TrodAll enc Try.prog W 0 (fun _ => true) true Try.f3.params.toList args.toList ds p := hA0
  rw [Try.params3] at hA hval
  obtain ⟨v0, vs0, d0, ds0, p0, q0, hargs, rfl, rfl, h0, r0⟩ := trodAll_cons hA
  obtain ⟨v1, vs1, d1, ds1, p1, q1, rfl, rfl, rfl, h1, r1⟩ := trodAll_cons r0
  obtain ⟨rfl, rfl, rfl⟩ := trodAll_nil r1
  obtain rfl : args = #[v0, v1] := by cases args; simp_all
  obtain ⟨a0, rfl, rfl, rfl, w0⟩ := open_int Try.underlying3 (hval 0 3 v0 rfl rfl) h0
  obtain ⟨a1, rfl, rfl, rfl, w1⟩ := open_int Try.underlying3 (hval 1 3 v1 rfl rfl) h1
  refine (walk a0 a1 W).mono fun e W' ⟨he, hb⟩ => ?_
  subst he
  exact ⟨_, rfl, law_post rfl (by kernel_rfl) (by rw [Try.params3]; intro t ht; simp at ht; subst ht; exact ⟨by kernel_rfl, of_decide_eq_true (by kernel_rfl)⟩) rfl rfl rfl hW' hb⟩

set_option maxRecDepth 100000 in
theorem over : Rows.networkFillsRow.holds Try.pinned (OpenSpec.ofChange Rows.networkFillsSpec) :=
  OpenClaim.holds_of_wide 3 Try.f3 rfl rfl rfl rfl rfl rfl rfl ⟨rfl, rfl, rfl, rfl, rfl⟩ rfl rfl rfl rfl rfl (by kernel_rfl) Try.func3 (by kernel_rfl)
    (of_decide_eq_true (by kernel_rfl)) (by unfold Func.isWrapper; first | (rw [if_pos (by decide +kernel)]; kernel_rfl) | (rw [if_neg (by decide +kernel)]; exact ⟨rfl, rfl⟩))
    (fun os started H enc _ => lifted os started H enc)

/-- THE STATEMENT -/
theorem proved : Rows.NetworkFillsSaid :=
  over
#print axioms proved
end Go.Proofs.Ytiindnmelegkgaa.networkFills

/- Deliver, Drop. -/
import Derived.Test.YtiindnmelegkgaaMap
namespace Go.Proofs.Ytiindnmelegkgaa
open Go.RowKit
set_option linter.unusedSimpArgs false
set_option linter.unusedVariables false

/-- A region that only reads: one world serves every order. -/
theorem still_step {P : Program} {ops : Array Oper} {md : Region.Mode} {K : Act → Prop} {i : Nat} {o : Oper} {rest : List Oper} {a : Act} {W : World} (hw : Region.wanted o (yielded ops a.tmps) = true)
    (H : ∃ v, calmAt P o a (fun w' => w' = W) W v ∧ calmWalk P md ops (chainC (wsq [W]) [] []) K (i + 1) rest (a.put o.dst v)) : calmWalk P md ops (chainC (wsq [W]) [] []) K i (o :: rest) a := by
  obtain ⟨v, h, hk⟩ := H
  refine chain_any hw rfl ⟨v, fun k w hw' => ?_, hk⟩
  have hk0 : k = 0 ∧ W = w := by
    unfold wsq at hw'
    match k with
    | 0 => exact ⟨rfl, by simpa using hw'⟩
    | k + 1 => simp at hw'
  obtain ⟨rfl, rfl⟩ := hk0
  exact calmAt_mono h fun w' e => by rw [e]; exact wsq_0
theorem wp_region_still {P : Program} {id : Nat} {Q : Exit → Act → World → Prop} {a : Act} {w : World} {l : List Oper} (hm : P.follows .mixedOrders = true) (hB : Region.lexB .any l.toArray = true)
    (h : calmWalk P .any l.toArray (chainC (wsq [w.drew]) [] []) (fun a' => Q .normal a' w.drew) 0 l a) : (Code.region id l.toArray true).wp P Q a w := by
  refine wp_region_chain (wsq [w.drew]) [] [] hm hB rfl rfl wsq_0 ?_
  have mono : ∀ (l' : List Oper) (i : Nat) (a : Act), calmWalk P .any l.toArray (chainC (wsq [w.drew]) [] []) (fun a' => Q .normal a' w.drew) i l' a → calmWalk P .any l.toArray (chainC (wsq [w.drew]) [] []) (fun a' => ∀ w', wsq [w.drew] ([] : List Nat).length w' → Q .normal a' w') i l' a := by
    intro l'
    induction l' with
    | nil =>
      intro i a h w' hw
      have : w.drew = w' := by simpa [wsq] using hw
      subst this
      exact h
    | cons o rest ih =>
      intro i a h
      unfold calmWalk at h ⊢
      split at h
      · rename_i hw
        rw [if_pos hw]
        obtain ⟨v, h1, h2⟩ := h
        exact ⟨v, h1, ih _ _ h2⟩
      · rename_i hw
        rw [if_neg hw]
        exact ⟨h.1, ih _ _ h.2⟩
  exact mono l 0 a h

theorem Step.set {ρ ρ' : Nat → Nat} {w w' : World} (h : Step ρ ρ' w w') (p : Addr) (v : Value) (hp : w.heap.size ≤ p.block) : Step ρ ρ' w (w'.setCell p v) :=
  ⟨h.os, h.tape, h.output, by simpa using h.size, fun b hb h0 => (set_other (by omega)).trans (h.block b hb h0), h.role⟩
theorem Step.drew {ρ ρ' : Nat → Nat} {w w' : World} (h : Step ρ ρ' w w') : Step ρ ρ' w w'.drew := ⟨h.os, h.tape, h.output, h.size, h.block, h.role⟩
theorem Step.alloc {ρ ρ' : Nat → Nat} {w w' : World} (h : Step ρ ρ' w w') (o : Obj) : Step ρ ρ' w (w'.alloc o) :=
  ⟨h.os, h.tape, h.output, by simp; exact Nat.le_succ_of_le h.size, fun b hb h0 => (old_at (Nat.lt_of_lt_of_le hb h.size)).trans (h.block b hb h0), h.role⟩

/-- A packet in flight has been removed. -/
def Removed (ρ : Nat → Nat) (w w' : World) (p : Nat) (N : Net) (i : Nat) (x : Fl) (kind : Int) : Prop :=
  ∃ ρ' vf' ve', Rep ρ' w' p { N with fl := N.fl.eraseIdx i, evs := N.evs ++ [⟨kind, x.id, -1⟩], vf := vf', ve := ve' } ∧ Step ρ ρ' w w' ∧ ownB w' x.p.bv x.p.bs ∧ ∀ b, x.p.bv.ownBlock = some b → ρ' b = 0

def zeroPk : Value := .agg #[.string { data := #[] }, .string { data := #[] }, .slice none 0 0]
theorem deliver_nil (id : Int) (w : World) : Calls Try.prog 11 #[.pointer none, .int .i64 id] w fun e w' => e = .returned (.tuple #[zeroPk, .int .i64 1]) ∧ Below w.heap.size w w' := by
  unfold zeroPk
  go_enter Try.func11, Try.ntmps11
  go_wp2_with fail
  refine (index_nil _ _).mono ?_
  rintro e w1 ⟨rfl, rfl⟩
  go_wp2
  exact bodyPost_ret (v := .tuple #[.agg #[.string { data := #[] }, .string { data := #[] }, .slice none 0 0], .int .i64 1]) (by simp [results, Try.results11, go_sem]) rfl ⟨rfl, (Below.refl _ _).alloc (Nat.le_refl _) _⟩

theorem deliver_miss {ρ : Nat → Nat} {w : World} {p : Nat} {N : Net} (R : Rep ρ w p N) (S : Small N) {id : Int} (h : Misses N.fl id) (h1 : -9223372036854775808 ≤ id) (h2 : id ≤ 9223372036854775807) :
    Calls Try.prog 11 #[.pointer (some ⟨p, 0, none⟩), .int .i64 id] w fun e w' => e = .returned (.tuple #[zeroPk, .int .i64 9]) ∧ Below w.heap.size w w' := by
  have b0 : Below w.heap.size w (w.alloc (.cells #[.string { data := #[] }, .string { data := #[] }, .slice none 0 0] 35)) := (Below.refl _ _).alloc (Nat.le_refl _) _
  have HC := Lib.hid (index_miss (R.below b0) S h h1 h2)
  clear R S h
  unfold zeroPk
  go_enter Try.func11, Try.ntmps11
  go_wp2_with fail
  refine HC.out.mono ?_
  rintro e w1 ⟨rfl, hb⟩
  have r0 : w1.heap[w.heap.size]? = some (.cells #[.string { data := #[] }, .string { data := #[] }, .slice none 0 0] 35 (0, 0)) := (hb.block _ (by simp)).trans (new_at rfl)
  have u0 := cell_of_row w1 _ 0 _ _ _ r0
  have u1 := cell_of_row w1 _ 1 _ _ _ r0
  have u2 := cell_of_row w1 _ 2 _ _ _ r0
  have v0 := frozen_blk r0 0
  have v1 := frozen_blk r0 1
  have v2 := frozen_blk r0 2
  simp at u0 u1 u2
  go_wp2
  exact bodyPost_ret (v := .tuple #[.agg #[.string { data := #[] }, .string { data := #[] }, .slice none 0 0], .int .i64 9]) (by simp [results, Try.results11, go_sem, u0, u1, u2]) rfl ⟨rfl, (((b0.trans (hb.mono (by simp))).setCell (p := ⟨_, _, _⟩) (Nat.le_refl _) _).setCell (p := ⟨_, _, _⟩) (Nat.le_refl _) _).setCell (p := ⟨_, _, _⟩) (Nat.le_refl _) _⟩

set_option maxHeartbeats 1000000 in
set_option maxRecDepth 100000 in
theorem deliver_blocked {ρ : Nat → Nat} {w : World} {p : Nat} {N : Net} (R : Rep ρ w p N) (S : Small N) {id : Int} {i : Nat} {x : Fl} (h : Hits N.fl id i x) (hbl : N.bl x.p.frm x.p.to = true) :
    Calls Try.prog 11 #[.pointer (some ⟨p, 0, none⟩), .int .i64 id] w fun e w' => e = .returned (.tuple #[zeroPk, .int .i64 8]) ∧ Below w.heap.size w w' := by
  have b0 : Below w.heap.size w (w.alloc (.cells #[.string { data := #[] }, .string { data := #[] }, .slice none 0 0] 35)) := (Below.refl _ _).alloc (Nat.le_refl _) _
  have HC := Lib.hid (index_hit (R.below b0) S h)
  have R0 := R.below b0
  have HR := Lib.hid R0
  have HX := Lib.hid h.1
  have hv := R.fok x (List.mem_of_getElem? h.1)
  simp only [validB, hostB, Bool.and_eq_true, decide_eq_true_eq] at hv
  have s1 : x.p.frm.size ≤ maxLen := by simp [maxLen]; omega
  have s2 : x.p.to.size ≤ maxLen := by simp [maxLen]; omega
  have HL : Hid (∀ w', mapOk w' N.vm N.bl N.cnt → (Instr.lookup 27 N.vm (.agg #[.string x.p.frm, .string x.p.to]) false).run Try.prog w' = .ok (.bool true) w') := Lib.hid fun w' hm => by
    have := lookup_run hm x.p.frm x.p.to s1 s2
    rw [hbl] at this
    exact this
  have hil : i < N.fl.length := (List.getElem?_eq_some_iff.1 h.1).1
  obtain ⟨g, cap, cur, hvf, _⟩ := row_addr R.f (by omega)
  obtain ⟨n, hn⟩ : ∃ n, N.fl.length = n := ⟨_, rfl⟩
  rw [hn] at hvf hil
  clear R S h hv s1 s2 hbl R0
  unfold zeroPk
  go_enter Try.func11, Try.ntmps11
  go_wp2_with fail
  refine HC.out.mono ?_
  rintro e w1 ⟨rfl, hb⟩
  have R1 := HR.out.below hb
  have r0 : w1.heap[w.heap.size]? = some (.cells #[.string { data := #[] }, .string { data := #[] }, .slice none 0 0] 35 (0, 0)) := (hb.block _ (by simp)).trans (new_at rfl)
  have b1 : Below w.heap.size w w1 := b0.trans (hb.mono (by simp))
  go_wp2_with fail
  obtain ⟨c0, c1, c2, c3, c4, fr⟩ := net_cells R1
  rw [hvf] at c0
  have rf1 := R1.f
  rw [hvf, hn] at rf1
  have m0 := fl_at rf1 HX.out hn 0 (by decide)
  have m1 := fl_at rf1 HX.out hn 1 (by decide)
  simp [Fl.cells] at m0 m1
  have hlk := HL.out w1.drew R1.m
  have HR1 := Lib.hid R1
  clear R1 c1 c2 c4 fr rf1
  refine wp_region_still (by kernel_rfl) (by kernel_rfl) ?_
  iterate 25 (refine still_step rfl ?_; apply Exists.intro; refine ⟨?_, ?_⟩; (focus (unfold calmAt calmUpon; go_simp; rfl)); (simp only [Act.put, List.setIfInBounds_toArray, List.set_cons_succ, List.set_cons_zero]))
  refine calm_nil ?_
  have u0 := cell_of_row w1 _ 0 _ _ _ r0
  have u1 := cell_of_row w1 _ 1 _ _ _ r0
  have u2 := cell_of_row w1 _ 2 _ _ _ r0
  have v0 := frozen_blk r0 0
  have v1 := frozen_blk r0 1
  have v2 := frozen_blk r0 2
  simp at u0 u1 u2
  clear hlk m0 m1
  go_wp2
  exact bodyPost_ret (v := .tuple #[.agg #[.string { data := #[] }, .string { data := #[] }, .slice none 0 0], .int .i64 8]) (by simp [results, Try.results11, go_sem, u0, u1, u2]) rfl ⟨rfl, ((b1.drew.setCell (p := ⟨_, _, _⟩) (Nat.le_refl _) _).setCell (p := ⟨_, _, _⟩) (Nat.le_refl _) _).setCell (p := ⟨_, _, _⟩) (Nat.le_refl _) _⟩

set_option maxHeartbeats 1000000 in
set_option maxRecDepth 100000 in
theorem deliver_ok {ρ : Nat → Nat} {w : World} {p : Nat} {N : Net} (R : Rep ρ w p N) (S : Small N) {id : Int} {i : Nat} {x : Fl} (h : Hits N.fl id i x) (hbl : N.bl x.p.frm x.p.to = false) :
    Calls Try.prog 11 #[.pointer (some ⟨p, 0, none⟩), .int .i64 id] w fun e w' => e = .returned (.tuple #[x.p.val, .int .i64 0]) ∧ Removed ρ w w' p N i x 2 := by
  have b0 : Below w.heap.size w (w.alloc (.cells #[.string { data := #[] }, .string { data := #[] }, .slice none 0 0] 35)) := (Below.refl _ _).alloc (Nat.le_refl _) _
  have HC := Lib.hid (index_hit (R.below b0) S h)
  have R0 := R.below b0
  have HR := Lib.hid R0
  have HS := Lib.hid S
  have HX := Lib.hid h.1
  have hxl : ∀ b, x.p.bv.ownBlock = some b → b < w.heap.size := fun b hb => R.lt (by rw [R.rfb x (List.mem_of_getElem? h.1) b hb]; omega)
  have hr0 : ρ w.heap.size = 0 := R.far _ (Nat.le_refl _)
  have hv := R.fok x (List.mem_of_getElem? h.1)
  simp only [validB, hostB, Bool.and_eq_true, decide_eq_true_eq] at hv
  have s1 : x.p.frm.size ≤ maxLen := by simp [maxLen]; omega
  have s2 : x.p.to.size ≤ maxLen := by simp [maxLen]; omega
  have HL : Hid (∀ w', mapOk w' N.vm N.bl N.cnt → (Instr.lookup 27 N.vm (.agg #[.string x.p.frm, .string x.p.to]) false).run Try.prog w' = .ok (.bool false) w') := Lib.hid fun w' hm => by
    have := lookup_run hm x.p.frm x.p.to s1 s2
    rw [hbl] at this
    exact this
  have hil : i < N.fl.length := (List.getElem?_eq_some_iff.1 h.1).1
  obtain ⟨g, cap, cur, hvf, _⟩ := row_addr R.f (by omega)
  obtain ⟨ba, bc, hbv⟩ := ownB_slice (R.fb x (List.mem_of_getElem? h.1))
  obtain ⟨n, hn⟩ : ∃ n, N.fl.length = n := ⟨_, rfl⟩
  rw [hn] at hvf hil
  clear R S h hv s1 s2 hbl R0
  go_enter Try.func11, Try.ntmps11
  go_wp2_with fail
  refine HC.out.mono ?_
  rintro e w1 ⟨rfl, hb⟩
  have R1 := HR.out.below hb
  have r0 : w1.heap[w.heap.size]? = some (.cells #[.string { data := #[] }, .string { data := #[] }, .slice none 0 0] 35 (0, 0)) := (hb.block _ (by simp)).trans (new_at rfl)
  have b1 : Below w.heap.size w w1 := b0.trans (hb.mono (by simp))
  go_wp2_with fail
  obtain ⟨c0, c1, c2, c3, c4, fr⟩ := net_cells R1
  rw [hvf] at c0
  have rf1 := R1.f
  rw [hvf, hn] at rf1
  have m0 := fl_at rf1 HX.out hn 0 (by decide)
  have m1 := fl_at rf1 HX.out hn 1 (by decide)
  simp [Fl.cells] at m0 m1
  have hlk := HL.out w1.drew R1.m
  have HR1 := Lib.hid R1
  clear R1 c1 c2 c4 fr rf1
  refine wp_region_still (by kernel_rfl) (by kernel_rfl) ?_
  iterate 25 (refine still_step rfl ?_; apply Exists.intro; refine ⟨?_, ?_⟩; (focus (unfold calmAt calmUpon; go_simp; rfl)); (simp only [Act.put, List.setIfInBounds_toArray, List.set_cons_succ, List.set_cons_zero]))
  refine calm_nil ?_
  clear hlk m0 m1 c0 c3
  have HB1 := Lib.hid b1
  have HH := Lib.hid hvf
  clear hvf b1 hb
  go_wp2_with fail
  have R2 : Rep ρ w1.drew p N := HR1.out.stays (Nat.le_refl _) fun _ _ => rfl
  refine (remove_any R2 HS.out i x HX.out 2).mono ?_
  rintro e w2 ⟨rfl, ρ', vf', ve', R3, S3, O3, F3⟩
  have hlt : w.heap.size < w1.drew.heap.size := by
    have := (Array.getElem?_eq_some_iff.1 r0).1
    exact this
  have r2 := (S3.block w.heap.size hlt hr0).trans r0
  have ρ0 := S3.role w.heap.size hlt hr0
  have u0 := cell_of_row w2 _ 0 _ _ _ r2
  have u1 := cell_of_row w2 _ 1 _ _ _ r2
  have u2 := cell_of_row w2 _ 2 _ _ _ r2
  have v0 := frozen_blk r2 0
  have v1 := frozen_blk r2 1
  have v2 := frozen_blk r2 2
  simp at u0 u1 u2
  have ST : Step ρ ρ' w w2 := (Below.step HB1.out).trans (((Step.refl ρ w1).drew).trans S3)
  obtain ⟨⟨xf, xt, xb, xbs⟩, xid, xsrc⟩ := x
  dsimp only at *
  subst hbv
  obtain ⟨w3, hw3⟩ : ∃ w3, w3 = ((w2.setCell ⟨w.heap.size, 0, none⟩ (.string xf)).setCell ⟨w.heap.size, 1, none⟩ (.string xt)).setCell ⟨w.heap.size, 2, none⟩ (.slice ba xbs.length bc) := ⟨_, rfl⟩
  have s3 : ∀ b, b ≠ w.heap.size → w3.heap[b]? = w2.heap[b]? := fun b hb => by rw [hw3]; exact (set_other hb).trans ((set_other hb).trans (set_other hb))
  have z3 : w3.heap.size = w2.heap.size := by rw [hw3]; simp
  have ST3 : Step ρ ρ' w w3 := by rw [hw3]; exact ((ST.set _ _ (Nat.le_refl _)).set _ _ (Nat.le_refl _)).set _ _ (Nat.le_refl _)
  have R4 : Rep ρ' w3 p _ := R3.stays (by omega) fun b hb => s3 b (fun e => hb (by rw [e]; exact ρ0))
  have O4 : ownB w3 (.slice ba xbs.length bc) xbs := row_stays O3 fun b hb => s3 b (by have := hxl b hb; omega)
  have END : Hid (Removed ρ w w3 p N i ⟨⟨xf, xt, .slice ba xbs.length bc, xbs⟩, xid, xsrc⟩ 2) := Lib.hid ⟨ρ', vf', ve', R4, ST3, O4, F3⟩
  have HW3 := Lib.hid hw3
  clear hw3 s3 z3 ST3 R4 O4 ST R3 S3 O3 F3 hxl ρ0 R2
  unfold Pk.val
  dsimp only
  go_wp2
  have EE := END.out
  rw [HW3.out] at EE
  exact bodyPost_ret (v := .tuple #[.agg #[.string xf, .string xt, .slice ba xbs.length bc], .int .i64 0]) (by simp [results, Try.results11, go_sem, u0, u1, u2]) rfl ⟨rfl, EE⟩
end Go.Proofs.Ytiindnmelegkgaa

/- The program's Inject, Drop, Unblock; the ways of failure. -/
import Derived.Test.YtiindnmelegkgaaR21
import Derived.Maps.OwnSet
section
namespace Go.Proofs.Ytiindnmelegkgaa
open Go.RowKit
set_option linter.unusedSimpArgs false
set_option linter.unusedVariables false

theorem inject_nil (q : Pk) (w : World) : Calls Try.prog 13 #[.pointer none, q.val] w fun e w' => e = .returned (.tuple #[.int .i64 0, .int .i64 1]) ∧ Below w.heap.size w w' := by
  unfold Pk.val
  go_enter Try.func13, Try.ntmps13
  go_wp2
  go_ret2
  exact ⟨rfl, (Below.refl _ _).alloc (Nat.le_refl _) _⟩
theorem inject_bad (q : Pk) (p : Nat) (w : World) (hr : rdB w q.bv q.bs) (hq : validB q = false) : Calls Try.prog 13 #[.pointer (some ⟨p, 0, none⟩), q.val] w fun e w' => e = .returned (.tuple #[.int .i64 0, .int .i64 2]) ∧ Below w.heap.size w w' := by
  have b0 : Below w.heap.size w (w.alloc (.cells #[.string q.frm, .string q.to, q.bv] 35)) := (Below.refl _ _).alloc (Nat.le_refl _) _
  obtain ⟨w2, b2, call⟩ := valid_any q _ (hr.below b0)
  rw [hq] at call
  have HC := Lib.hid call
  clear call hr hq
  unfold Pk.val at HC ⊢
  go_enter Try.func13, Try.ntmps13
  go_wp2_with fail
  refine HC.out.mono ?_
  rintro e w1 ⟨rfl, rfl⟩
  go_wp2_with fail
  go_ret2
  exact ⟨rfl, b0.trans (b2.mono (by simp))⟩
set_option maxRecDepth 100000 in
theorem inject_full {ρ : Nat → Nat} {w : World} {p : Nat} {N : Net} (R : Rep ρ w p N) (S : Small N) (q : Pk) (hr : rdB w q.bv q.bs) (hq : validB q = true) (hf : 64 ≤ N.fl.length) :
    Calls Try.prog 13 #[.pointer (some ⟨p, 0, none⟩), q.val] w fun e w' => e = .returned (.tuple #[.int .i64 0, .int .i64 7]) ∧ Below w.heap.size w w' := by
  have b0 : Below w.heap.size w (w.alloc (.cells #[.string q.frm, .string q.to, q.bv] 35)) := (Below.refl _ _).alloc (Nat.le_refl _) _
  obtain ⟨w2, b2, call⟩ := valid_any q _ (hr.below b0)
  have R2 := (R.below b0).below b2
  rw [hq] at call
  have HC := Lib.hid call
  obtain ⟨c0, c1, c2, c3, c4, fr⟩ := net_cells R2
  obtain ⟨fa, fc, hv1⟩ := row_slice R.f
  rw [hv1] at c0
  have hsm := S.fl
  generalize N.fl.length = n1 at *
  clear call hr hq R R2 c1 c2 c3 c4 S hv1
  unfold Pk.val at HC ⊢
  go_enter Try.func13, Try.ntmps13
  go_wp2_with fail
  refine HC.out.mono ?_
  rintro e w1 ⟨rfl, rfl⟩
  go_wp2_with fail
  go_ret2
  exact ⟨rfl, b0.trans (b2.mono (by simp))⟩
set_option maxHeartbeats 1000000 in
set_option maxRecDepth 100000 in
theorem inject_ok {ρ : Nat → Nat} {w : World} {p : Nat} {N : Net} (R : Rep ρ w p N) (S : Small N) (q : Pk) (hr : rdB w q.bv q.bs) (hq0 : q.bs ≠ [] → ∀ b, q.bv.ownBlock = some b → ρ b = 0) (hq : validB q = true) (hf : N.fl.length < 64) :
    Calls Try.prog 13 #[.pointer (some ⟨p, 0, none⟩), q.val] w fun e w' => e = .returned (.tuple #[.int .i64 N.next, .int .i64 0]) ∧ Launched ρ w w' p N q (-1) 8 (-1) := by
  have b0 : Below w.heap.size w (w.alloc (.cells #[.string q.frm, .string q.to, q.bv] 35)) := (Below.refl _ _).alloc (Nat.le_refl _) _
  obtain ⟨w2, b2, call⟩ := valid_any q _ (hr.below b0)
  have b02 : Below w.heap.size w w2 := b0.trans (b2.mono (by simp))
  have R2 := R.below b02
  have r2 := hr.below b02
  have x2 : w2.heap[w.heap.size]? = some (.cells #[.string q.frm, .string q.to, q.bv] 35 (0, 0)) := (b2.block _ (by simp)).trans (new_at rfl)
  rw [hq] at call
  have hqp : q.bs ≠ [] → q.bv.ownBlock ≠ some p := fun hne e => by have := hq0 hne p e; rw [R.rp] at this; cases this
  obtain ⟨bv', vf', ve', ρ', w', R', S', call2⟩ := launch_any ρ w2 p N R2 8 q (-1) (-1) r2 hq (Nat.le_trans S.next (by decide)) (Nat.le_trans S.evs (by decide)) (by omega) hqp
  have END : Hid (Launched ρ w w' p N q (-1) 8 (-1)) := Lib.hid ⟨bv', vf', ve', ρ', R', (Below.step b02).trans S'⟩
  obtain ⟨c0, c1, c2, c3, c4, fr⟩ := net_cells R2
  obtain ⟨fa, fc, hv1⟩ := row_slice R.f
  rw [hv1] at c0
  obtain ⟨qa, qn, qc, hqv, -⟩ := hr.lt
  unfold Pk.val at call call2
  rw [hqv] at call call2 x2
  have HC := Lib.hid call
  have HC2 := Lib.hid call2
  have hsm := S.fl
  generalize N.fl.length = n1 at *
  obtain ⟨j0, j1, j2, fj⟩ := cells3 x2
  clear call call2 hr hq R R2 c1 c2 c3 c4 S hv1 R' S' r2 b02 b2 b0 hqp hq0
  unfold Pk.val
  rw [hqv]
  clear hqv
  go_enter Try.func13, Try.ntmps13
  go_wp2_with fail
  refine HC.out.mono ?_
  rintro e w1 ⟨rfl, rfl⟩
  go_wp2_with fail
  refine HC2.out.mono ?_
  rintro e w1 ⟨rfl, rfl⟩
  go_wp2_with fail
  go_ret2
  exact ⟨rfl, END.out⟩

theorem drop_miss {ρ : Nat → Nat} {w : World} {p : Nat} {N : Net} (R : Rep ρ w p N) (S : Small N) {id : Int} (h : Misses N.fl id) (h1 : -9223372036854775808 ≤ id) (h2 : id ≤ 9223372036854775807) :
    Calls Try.prog 18 #[.pointer (some ⟨p, 0, none⟩), .int .i64 id] w fun e w' => e = .returned (.int .i64 9) ∧ Below w.heap.size w w' := by
  have HC := Lib.hid (index_miss R S h h1 h2)
  clear R S h
  go_enter Try.func18, Try.ntmps18
  go_wp2_with fail
  refine HC.out.mono ?_
  rintro e w1 ⟨rfl, hb⟩
  go_wp2_with fail
  go_ret
  exact ⟨rfl, hb⟩
theorem drop_nil (id : Int) (w : World) : Calls Try.prog 18 #[.pointer none, .int .i64 id] w fun e w' => e = .returned (.int .i64 1) ∧ Below w.heap.size w w' := by
  go_enter Try.func18, Try.ntmps18
  go_wp2_with fail
  refine (index_nil _ _).mono ?_
  rintro e w1 ⟨rfl, rfl⟩
  go_wp2_with fail
  go_ret
  exact ⟨rfl, Below.refl _ _⟩
theorem drop_ok {ρ : Nat → Nat} {w : World} {p : Nat} {N : Net} (R : Rep ρ w p N) (S : Small N) {id : Int} {i : Nat} {x : Fl} (h : Hits N.fl id i x) :
    Calls Try.prog 18 #[.pointer (some ⟨p, 0, none⟩), .int .i64 id] w fun e w' => e = .returned (.int .i64 0) ∧
      ∃ ρ' vf' ve', Rep ρ' w' p { N with fl := N.fl.eraseIdx i, evs := N.evs ++ [⟨3, x.id, -1⟩], vf := vf', ve := ve' } ∧ Step ρ ρ' w w' := by
  have HC := Lib.hid (index_hit R S h)
  have HR := Lib.hid R
  have HS := Lib.hid S
  have HX := Lib.hid h.1
  clear R S h
  go_enter Try.func18, Try.ntmps18
  go_wp2_with fail
  refine HC.out.mono ?_
  rintro e w1 ⟨rfl, hb⟩
  have HB := Lib.hid hb
  clear hb
  go_wp2_with fail
  refine (remove_any (HR.out.below HB.out) HS.out i x HX.out 3).mono ?_
  rintro e w2 ⟨rfl, ρ', vf', ve', R', S', -⟩
  have END : Hid (∃ ρ' vf' ve', Rep ρ' w2 p { N with fl := N.fl.eraseIdx i, evs := N.evs ++ [⟨3, x.id, -1⟩], vf := vf', ve := ve' } ∧ Step ρ ρ' w w2) := Lib.hid ⟨ρ', vf', ve', R', (Below.step HB.out).trans S'⟩
  clear R' S'
  unfold Pk.val
  go_wp2_with fail
  go_ret
  exact ⟨rfl, END.out⟩

/-- A pair is let again. -/
theorem mapOk_del {w : World} {bl : ByteArray → ByteArray → Bool} {cnt : Nat} {mb : Nat} (h : mapOk w (.map (some mb)) bl cnt) (f t : ByteArray) (hf : f.size ≤ maxLen) (ht : t.size ≤ maxLen) (bl' : ByteArray → ByteArray → Bool)
    (hbl : ∀ f' t', bl' f' t' = true ↔ ¬ (f' = f ∧ t' = t) ∧ bl f' t' = true) (ty : TypeId) :
    ∃ w', (Builtin.delete_ #[27, 82] ty #[.map (some mb), keyV f t]).run Try.prog w = .ok (.tuple #[]) w' ∧ mapOk w' (.map (some mb)) bl' cnt ∧ w.grownBy w' (some mb) := by
  obtain ⟨kl, hk⟩ := keyV_key f t hf ht
  rcases h with ⟨h, _⟩ | ⟨mb', D, h, hown, hD⟩
  · cases h
  · cases h
    obtain ⟨w', hrun, hown', hg⟩ := hown.drop K82 u27 hk ty
    refine ⟨w', hrun, .inr ⟨mb, _, rfl, hown', fun f' t' kl' hk' => ?_⟩, hg.grown⟩
    by_cases he : f' = f ∧ t' = t
    · obtain ⟨rfl, rfl⟩ := he
      rw [hk] at hk'
      cases hk'
      rw [Maps.atKey_del_same]
      have : bl' f' t' = false := by
        rw [Bool.eq_false_iff]
        intro h
        exact ((hbl f' t').1 h).1 ⟨rfl, rfl⟩
      rw [this]
    · have hne : kl' ≠ kl := fun e => he (keyV_inj (e ▸ hk') hk)
      rw [Maps.atKey_del_other hne, hD f' t' kl' hk']
      have : bl' f' t' = bl f' t' := by
        rw [Bool.eq_iff_iff, hbl]
        exact ⟨fun h => h.2, fun h => ⟨he, h⟩⟩
      rw [this]

/-- delete, its run known. -/
theorem wpList_delete_run {P : Program} {w : World} {ops : Array Oper} {rest : List Oper} {o : Oper} {a : Act} {Q : Exit → Act → World → Prop} (hgd : o.guard = none) (m x : Operand) (t k : TypeId)
    (ho : o.op = .call { callee := .builtin .delete, args := #[m, x], argTypes := #[t, k] }) (v u : Value) (hs : a.eval m = v) (hx : a.eval x = u) {v' : Value} {w' : World}
    (hr : (Builtin.delete_ #[t, k] o.type #[v, u]).run P w = .ok v' w') (h : wpList P ops Q rest (a.put o.dst v') w') : wpList P ops Q (o :: rest) a w :=
  wpList_plain hgd fun _ hK => by
    unfold Oper.wp execOp
    simp only [ho, resolve, invoke, builtin, Sem.run_bind, Sem.run_pure, Result.andThen_ok, List.map_toArray, List.map_cons, List.map_nil, hs, hx, hr]
    exact hK _ _ h

set_option maxRecDepth 100000 in
theorem unblock_ok {ρ : Nat → Nat} {w : World} {p : Nat} {N : Net} (R : Rep ρ w p N) (S : Small N) (f t : ByteArray) (hf : hostB f = true) (ht : hostB t = true) (bl' : ByteArray → ByteArray → Bool)
    (hbl : ∀ f' t', bl' f' t' = true ↔ ¬ (f' = f ∧ t' = t) ∧ N.bl f' t' = true) :
    Calls Try.prog 31 #[.pointer (some ⟨p, 0, none⟩), .string f, .string t] w fun e w' => e = .returned (.int .i64 0) ∧ Mapped ρ w w' p N bl' N.cnt := by
  obtain ⟨c0, c1, c2, c3, c4, fr⟩ := net_cells R
  have hpl := R.lt (b := p) (by rw [R.rp]; decide)
  rcases R.m with ⟨hv, hb0⟩ | ⟨mb, D, hv, h1, h2⟩
  · obtain ⟨kl, hk⟩ := keyV_key f t (host_len hf) (host_len ht)
    have HRN : Hid (∀ ty, (Builtin.delete_ #[27, 82] ty #[.map none, .agg #[.string f, .string t]]).run Try.prog w = .ok (.tuple #[]) w) := Lib.hid fun ty => Maps.drop_nil K82 u27 hk ty
    have e : bl' = N.bl := by
      funext f' t'
      rw [Bool.eq_iff_iff, hbl, hb0 f' t']
      simp
    have END : Hid (Mapped ρ w w p N bl' N.cnt) := Lib.hid ⟨ρ, N.vm, by rw [e]; exact R, Step.refl _ _⟩
    rw [hv] at c3
    clear hbl R S c0 c1 c2 c4 fr hb0 hv e
    go_enter Try.func31, Try.ntmps31
    go_wp2_with fail
    refine (pair_ok _ _ _ hf ht _).mono ?_
    rintro e w1 ⟨rfl, rfl⟩
    go_wp2_with (refine wpList_delete_run rfl (.tmp 17) (.tmp 20) 27 82 rfl _ _ rfl rfl (HRN.out _) ?_)
    go_ret
    exact ⟨rfl, END.out⟩
  · obtain ⟨W2, run, m2, gr⟩ := mapOk_del (hv ▸ R.m) f t (host_len hf) (host_len ht) bl' hbl 0
    have hrm := R.rm mb (by rw [hv]; rfl)
    have hml := R.lt (b := mb) (by rw [hrm]; decide)
    have z2 := gr.size
    obtain ⟨ρ', R', S'⟩ := R.mapped (w' := W2) gr.os gr.tape gr.output z2 (.map (some mb)) bl' N.cnt
      ((gr.block p hpl (fun e => by cases e; rw [R.rp] at hrm; cases hrm)).trans (hv ▸ R.net)) m2 (fun b hb h1 h5 => gr.block b hb (fun e => by cases e; exact h5 hrm)) (fun b hb => by
        obtain rfl : mb = b := by simpa [mapBlock] using hb
        exact ⟨.inl hrm, by omega⟩)
    have END : Hid (Mapped ρ w W2 p N bl' N.cnt) := Lib.hid ⟨ρ', _, R', S'⟩
    rw [hv] at c3
    have HRN : Hid (∀ ty, (Builtin.delete_ #[27, 82] ty #[.map (some mb), .agg #[.string f, .string t]]).run Try.prog w = .ok (.tuple #[]) W2) := Lib.hid fun ty => run
    clear hbl hrm hml R' S' z2 gr m2 R S c0 c1 c2 c4 fr run h1 h2 hv
    go_enter Try.func31, Try.ntmps31
    go_wp2_with fail
    refine (pair_ok _ _ _ hf ht _).mono ?_
    rintro e w1 ⟨rfl, rfl⟩
    go_wp2_with (refine wpList_delete_run rfl (.tmp 17) (.tmp 20) 27 82 rfl _ _ rfl rfl (HRN.out _) ?_)
    go_ret
    exact ⟨rfl, END.out⟩
theorem unblock_bad (p : Nat) (f t : ByteArray) (h : (hostB f && hostB t) = false) (w : World) : Calls Try.prog 31 #[.pointer (some ⟨p, 0, none⟩), .string f, .string t] w fun e w' => e = .returned (.int .i64 2) ∧ w = w' := by
  go_enter Try.func31, Try.ntmps31
  go_wp2_with fail
  refine (pair_bad _ _ _ h _).mono ?_
  rintro e w1 ⟨rfl, rfl⟩
  go_wp2_with fail
  go_ret
  exact ⟨rfl, rfl⟩
theorem unblock_nil (f t : ByteArray) (w : World) : Calls Try.prog 31 #[.pointer none, .string f, .string t] w fun e w' => e = .returned (.int .i64 1) ∧ w = w' := by
  go_enter Try.func31, Try.ntmps31
  go_wp2_with fail
  refine (pair_nil _ _ _).mono ?_
  rintro e w1 ⟨rfl, rfl⟩
  go_wp2_with fail
  go_ret
  exact ⟨rfl, rfl⟩
theorem block_bad (p : Nat) (f t : ByteArray) (h : (hostB f && hostB t) = false) (w : World) : Calls Try.prog 21 #[.pointer (some ⟨p, 0, none⟩), .string f, .string t] w fun e w' => e = .returned (.int .i64 2) ∧ w = w' := by
  go_enter Try.func21, Try.ntmps21
  go_wp2_with fail
  refine (pair_bad _ _ _ h _).mono ?_
  rintro e w1 ⟨rfl, rfl⟩
  go_wp2_with fail
  go_ret
  exact ⟨rfl, rfl⟩
theorem block_nil (f t : ByteArray) (w : World) : Calls Try.prog 21 #[.pointer none, .string f, .string t] w fun e w' => e = .returned (.int .i64 1) ∧ w = w' := by
  go_enter Try.func21, Try.ntmps21
  go_wp2_with fail
  refine (pair_nil _ _ _).mono ?_
  rintro e w1 ⟨rfl, rfl⟩
  go_wp2_with fail
  go_ret
  exact ⟨rfl, rfl⟩
end Go.Proofs.Ytiindnmelegkgaa
end
/- The program's ways of failure; a nil network. -/
section
namespace Go.Proofs.Ytiindnmelegkgaa
open Go.RowKit
set_option linter.unusedSimpArgs false
set_option linter.unusedVariables false

theorem replay_bad {ρ : Nat → Nat} {w : World} {p : Nat} {N : Net} (R : Rep ρ w p N) (S : Small N) (id : Int) (h : id < 0 ∨ (N.hist.length : Int) ≤ id) :
    Calls Try.prog 14 #[.pointer (some ⟨p, 0, none⟩), .int .i64 id] w fun e w' => e = .returned (.tuple #[.int .i64 0, .int .i64 9]) ∧ Below w.heap.size w w' := by
  obtain ⟨c0, c1, c2, c3, c4, fr⟩ := net_cells R
  obtain ⟨ha, hc, hv1⟩ := row_slice R.h
  rw [hv1] at c1
  have hsm := S.hist
  generalize N.hist.length = n1 at *
  clear R S c0 c2 c3 c4 hv1
  by_cases h0 : id < 0
  · go_enter Try.func14, Try.ntmps14
    go_wp2_with fail
    go_ret2
    exact ⟨rfl, Below.refl _ _⟩
  · have h1 : (n1 : Int) ≤ id := by omega
    go_enter Try.func14, Try.ntmps14
    go_wp2_with fail
    go_ret2
    exact ⟨rfl, Below.refl _ _⟩
theorem replay_full {ρ : Nat → Nat} {w : World} {p : Nat} {N : Net} (R : Rep ρ w p N) (S : Small N) (k : Nat) (hk : k < N.hist.length) (hf : 64 ≤ N.fl.length) :
    Calls Try.prog 14 #[.pointer (some ⟨p, 0, none⟩), .int .i64 (k : Nat)] w fun e w' => e = .returned (.tuple #[.int .i64 0, .int .i64 7]) ∧ Below w.heap.size w w' := by
  obtain ⟨c0, c1, c2, c3, c4, fr⟩ := net_cells R
  obtain ⟨ha, hc, hv1⟩ := row_slice R.h
  obtain ⟨fa, fc, hv2⟩ := row_slice R.f
  rw [hv1] at c1
  rw [hv2] at c0
  have hsm := S.hist
  have hsf := S.fl
  generalize N.hist.length = n1 at *
  generalize N.fl.length = n2 at *
  clear R S c2 c3 c4 hv1 hv2
  go_enter Try.func14, Try.ntmps14
  go_wp2_with fail
  go_ret2
  exact ⟨rfl, Below.refl _ _⟩
theorem replay_nil (id : Int) (w : World) : Calls Try.prog 14 #[.pointer none, .int .i64 id] w fun e w' => e = .returned (.tuple #[.int .i64 0, .int .i64 1]) ∧ Below w.heap.size w w' := by
  go_enter Try.func14, Try.ntmps14
  go_wp2_with fail
  go_ret2
  exact ⟨rfl, Below.refl _ _⟩

theorem dup_miss {ρ : Nat → Nat} {w : World} {p : Nat} {N : Net} (R : Rep ρ w p N) (S : Small N) {id : Int} (h : Misses N.fl id) (h1 : -9223372036854775808 ≤ id) (h2 : id ≤ 9223372036854775807) :
    Calls Try.prog 15 #[.pointer (some ⟨p, 0, none⟩), .int .i64 id] w fun e w' => e = .returned (.tuple #[.int .i64 0, .int .i64 9]) ∧ Below w.heap.size w w' := by
  have HC := Lib.hid (index_miss R S h h1 h2)
  clear R S h
  go_enter Try.func15, Try.ntmps15
  go_wp2_with fail
  refine HC.out.mono ?_
  rintro e w1 ⟨rfl, hb⟩
  go_wp2_with fail
  go_ret2
  exact ⟨rfl, hb⟩
theorem dup_nil (id : Int) (w : World) : Calls Try.prog 15 #[.pointer none, .int .i64 id] w fun e w' => e = .returned (.tuple #[.int .i64 0, .int .i64 1]) ∧ Below w.heap.size w w' := by
  go_enter Try.func15, Try.ntmps15
  go_wp2_with fail
  refine (index_nil _ _).mono ?_
  rintro e w1 ⟨rfl, rfl⟩
  go_wp2_with fail
  go_ret2
  exact ⟨rfl, Below.refl _ _⟩
theorem dup_full {ρ : Nat → Nat} {w : World} {p : Nat} {N : Net} (R : Rep ρ w p N) (S : Small N) {id : Int} {i : Nat} {x : Fl} (h : Hits N.fl id i x) (hf : 64 ≤ N.fl.length) :
    Calls Try.prog 15 #[.pointer (some ⟨p, 0, none⟩), .int .i64 id] w fun e w' => e = .returned (.tuple #[.int .i64 0, .int .i64 7]) ∧ Below w.heap.size w w' := by
  have HC := Lib.hid (index_hit R S h)
  have HR := Lib.hid R
  obtain ⟨fa, fc, hv2⟩ := row_slice R.f
  obtain ⟨n, hn⟩ : ∃ n, N.fl.length = n := ⟨_, rfl⟩
  have hsf := S.fl
  rw [hn] at hv2 hf hsf
  have HV := Lib.hid hv2
  clear R S h hv2 hn
  go_enter Try.func15, Try.ntmps15
  go_wp2_with fail
  refine HC.out.mono ?_
  rintro e w1 ⟨rfl, hb⟩
  obtain ⟨c0, c1, c2, c3, c4, fr⟩ := net_cells (HR.out.below hb)
  rw [HV.out] at c0
  have HB := Lib.hid hb
  clear c1 c2 c3 c4 hb
  go_wp2_with fail
  go_ret2
  exact ⟨rfl, HB.out⟩

theorem source_miss {ρ : Nat → Nat} {w : World} {p : Nat} {N : Net} (R : Rep ρ w p N) (S : Small N) {id : Int} (h : Misses N.fl id) (h1 : -9223372036854775808 ≤ id) (h2 : id ≤ 9223372036854775807) :
    Calls Try.prog 25 #[.pointer (some ⟨p, 0, none⟩), .int .i64 id] w fun e w' => e = .returned (.tuple #[.int .i64 0, .int .i64 9]) ∧ Below w.heap.size w w' := by
  have HC := Lib.hid (index_miss R S h h1 h2)
  clear R S h
  go_enter Try.func25, Try.ntmps25
  go_wp2_with fail
  refine HC.out.mono ?_
  rintro e w1 ⟨rfl, hb⟩
  go_wp2_with fail
  go_ret2
  exact ⟨rfl, hb⟩
theorem source_nil (id : Int) (w : World) : Calls Try.prog 25 #[.pointer none, .int .i64 id] w fun e w' => e = .returned (.tuple #[.int .i64 0, .int .i64 1]) ∧ Below w.heap.size w w' := by
  go_enter Try.func25, Try.ntmps25
  go_wp2_with fail
  refine (index_nil _ _).mono ?_
  rintro e w1 ⟨rfl, rfl⟩
  go_wp2_with fail
  go_ret2
  exact ⟨rfl, Below.refl _ _⟩
theorem genuine_miss {ρ : Nat → Nat} {w : World} {p : Nat} {N : Net} (R : Rep ρ w p N) (S : Small N) {id : Int} (h : Misses N.fl id) (h1 : -9223372036854775808 ≤ id) (h2 : id ≤ 9223372036854775807) :
    Calls Try.prog 16 #[.pointer (some ⟨p, 0, none⟩), .int .i64 id] w fun e w' => e = .returned (.tuple #[.bool false, .int .i64 9]) ∧ Below w.heap.size w w' := by
  have HC := Lib.hid (index_miss R S h h1 h2)
  clear R S h
  go_enter Try.func16, Try.ntmps16
  go_wp2_with fail
  refine HC.out.mono ?_
  rintro e w1 ⟨rfl, hb⟩
  go_wp2_with fail
  go_ret2
  exact ⟨rfl, hb⟩
theorem genuine_nil (id : Int) (w : World) : Calls Try.prog 16 #[.pointer none, .int .i64 id] w fun e w' => e = .returned (.tuple #[.bool false, .int .i64 1]) ∧ Below w.heap.size w w' := by
  go_enter Try.func16, Try.ntmps16
  go_wp2_with fail
  refine (index_nil _ _).mono ?_
  rintro e w1 ⟨rfl, rfl⟩
  go_wp2_with fail
  go_ret2
  exact ⟨rfl, Below.refl _ _⟩

theorem alter_miss {ρ : Nat → Nat} {w : World} {p : Nat} {N : Net} (R : Rep ρ w p N) (S : Small N) {id : Int} (off m : Int) (hm : (m == 0) = false) (h : Misses N.fl id) (h1 : -9223372036854775808 ≤ id) (h2 : id ≤ 9223372036854775807) :
    Calls Try.prog 19 #[.pointer (some ⟨p, 0, none⟩), .int .i64 id, .int .i64 off, .int .u8 m] w fun e w' => e = .returned (.int .i64 9) ∧ Below w.heap.size w w' := by
  have HC := Lib.hid (index_miss R S h h1 h2)
  clear R S h
  go_enter Try.func19, Try.ntmps19
  go_wp2_with fail
  refine HC.out.mono ?_
  rintro e w1 ⟨rfl, hb⟩
  go_wp2_with fail
  go_ret
  exact ⟨rfl, hb⟩
theorem alter_nil (id off m : Int) (w : World) : Calls Try.prog 19 #[.pointer none, .int .i64 id, .int .i64 off, .int .u8 m] w fun e w' => e = .returned (.int .i64 1) ∧ Below w.heap.size w w' := by
  go_enter Try.func19, Try.ntmps19
  go_wp2_with fail
  refine (index_nil _ _).mono ?_
  rintro e w1 ⟨rfl, rfl⟩
  go_wp2_with fail
  go_ret
  exact ⟨rfl, Below.refl _ _⟩
theorem redirect_bad (p : Nat) (id : Int) (to : ByteArray) (ht : hostB to = false) (w : World) : Calls Try.prog 20 #[.pointer (some ⟨p, 0, none⟩), .int .i64 id, .string to] w fun e w' => e = .returned (.int .i64 2) ∧ Below w.heap.size w w' := by
  go_enter Try.func20, Try.ntmps20
  go_wp2_with fail
  refine (host_any _ _).mono ?_
  rintro e w0 ⟨rfl, rfl⟩
  rw [ht]
  go_wp2_with fail
  go_ret
  exact ⟨rfl, Below.refl _ _⟩
theorem redirect_miss {ρ : Nat → Nat} {w : World} {p : Nat} {N : Net} (R : Rep ρ w p N) (S : Small N) {id : Int} (to : ByteArray) (ht : hostB to = true) (h : Misses N.fl id) (h1 : -9223372036854775808 ≤ id) (h2 : id ≤ 9223372036854775807) :
    Calls Try.prog 20 #[.pointer (some ⟨p, 0, none⟩), .int .i64 id, .string to] w fun e w' => e = .returned (.int .i64 9) ∧ Below w.heap.size w w' := by
  have HC := Lib.hid (index_miss R S h h1 h2)
  clear R S h
  go_enter Try.func20, Try.ntmps20
  go_wp2_with fail
  refine (host_any _ _).mono ?_
  rintro e w0 ⟨rfl, rfl⟩
  rw [ht]
  go_wp2_with fail
  refine HC.out.mono ?_
  rintro e w1 ⟨rfl, hb⟩
  go_wp2_with fail
  go_ret
  exact ⟨rfl, hb⟩
theorem redirect_nil (id : Int) (to : ByteArray) (w : World) : Calls Try.prog 20 #[.pointer none, .int .i64 id, .string to] w fun e w' => e = .returned (.int .i64 1) ∧ Below w.heap.size w w' := by
  go_enter Try.func20, Try.ntmps20
  go_wp2_with fail
  refine (index_nil _ _).mono ?_
  rintro e w1 ⟨rfl, rfl⟩
  go_wp2_with fail
  go_ret
  exact ⟨rfl, Below.refl _ _⟩
end Go.Proofs.Ytiindnmelegkgaa
end

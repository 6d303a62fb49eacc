/- The map of blocked pairs. -/
import Derived.Test.YtiindnmelegkgaaRemove
import Derived.DeepKeys4
import Derived.Maps.Keyed
import Derived.Maps.Views
section
namespace Go.Proofs.Ytiindnmelegkgaa
open Go.RowKit
set_option linter.unusedSimpArgs false
set_option linter.unusedVariables false

theorem laidOut : laidOutB Try.prog = true := by kernel_rfl
theorem row82 : (82 : TypeId) < Try.prog.types.size := of_decide_eq_true (by kernel_rfl)
theorem u82 : Try.prog.underlying 82 = some (.array 2 9) := by kernel_rfl
theorem u9 : Try.prog.underlying 9 = some .string := by kernel_rfl
theorem u27 : Try.prog.underlying 27 = some (.map 82 4) := by kernel_rfl
theorem u4 : Try.prog.underlying 4 = some .bool := by kernel_rfl
theorem wide82 : (match Try.prog.underlying 82 with | some (.array _ _) | some (.struct _) => true | _ => false) = true := by rw [u82]
theorem kta82 : Try.prog.keyTypeAt 2 82 = true := by kernel_rfl
theorem kt82 : Try.prog.keyType 82 = true := by kernel_rfl
set_option maxRecDepth 100000 in
theorem law82 : WideMaps.KeyLaw Try.prog 82 := deep_law_laid laidOut (m := 2) (by omega) row82 kta82 wide82
theorem K82 : Maps.Keyed Try.prog 82 := Maps.Keyed.of_law law82
theorem cells82 : Try.prog.cellsOf 82 = 2 := by kernel_rfl
theorem cells9 : Try.prog.cellsOf 9 = 1 := by kernel_rfl
theorem size_types : ∃ m, Try.prog.types.size = m + 1 := ⟨132, by kernel_rfl⟩
theorem keyV_key (f t : ByteArray) (hf : f.size ≤ maxLen) (ht : t.size ≤ maxLen) : ∃ kl, keyOf Try.prog 82 (keyV f t) = some kl := by
  obtain ⟨m, hm⟩ := size_types
  unfold keyOf keyV
  rw [u82]
  simp [Value.formed, u82, cells82, hm, Program.keyLits, u9, cells9, hf, ht, Value.cells, kt82, show List.range 2 = [0, 1] from rfl]

theorem keyV_inj {f t f' t' : ByteArray} {kl : Lit} (h : keyOf Try.prog 82 (keyV f t) = some kl) (h' : keyOf Try.prog 82 (keyV f' t') = some kl) : f = f' ∧ t = t' := by
  have e := K82.inj h h'
  simpa [keyV] using e
theorem zero4 (w : World) : (zeroValue 4).run Try.prog w = .ok (.bool false) w := by kernel_rfl

theorem plain_bool_inv {v : Value} {x : Bool} {ps : List MemPlace} (h : plainElem (H := Unit) Try.prog 4 v = some (.lit (.bool x), ps)) : v = .bool x := by
  unfold plainElem at h
  rw [u4] at h
  cases v <;> simp at h
  rw [h.1]

/-- What a look-up gives. -/
theorem lookup_run {w : World} {vm : Value} {bl : ByteArray → ByteArray → Bool} {cnt : Nat} (h : mapOk w vm bl cnt) (f t : ByteArray) (hf : f.size ≤ maxLen) (ht : t.size ≤ maxLen) :
    (Instr.lookup 27 vm (keyV f t) false).run Try.prog w = .ok (.bool (bl f t)) w := by
  obtain ⟨kl, hk⟩ := keyV_key f t hf ht
  rcases h with ⟨rfl, hb⟩ | ⟨mb, D, rfl, hown, hD⟩
  · rw [hb f t]
    have hfind := K82.find w hk [] (by simp)
    rcases hfind with ⟨h1, _⟩ | ⟨j, e, _, h2, _⟩
    · simp [Instr.lookup, run_underlying u27, K82.check w _ hk, h1, zero4, Result.andThen]
    · simp at h2
  · obtain ⟨v, ps, hrun, hv⟩ := hown.lookup K82 u27 (zero4 w) (plainElem_bool u4 false) hk
    rw [hD f t kl hk] at hv
    rw [hrun, plain_bool_inv hv]

/-- A pair is blocked. -/
theorem mapOk_put {w : World} {vm : Value} {bl : ByteArray → ByteArray → Bool} {cnt : Nat} {mb : Nat} (h : mapOk w (.map (some mb)) bl cnt) (hc : cnt < maxLen) (f t : ByteArray) (hf : f.size ≤ maxLen) (ht : t.size ≤ maxLen) (bl' : ByteArray → ByteArray → Bool)
    (hbl : ∀ f' t', bl' f' t' = true ↔ (f' = f ∧ t' = t) ∨ bl f' t' = true) :
    ∃ w', (Instr.mapUpdate 27 (.map (some mb)) (keyV f t) (.bool true)).run Try.prog w = .ok () w' ∧ mapOk w' (.map (some mb)) bl' (cnt + 1) ∧ w.grownBy w' (some mb) := by
  obtain ⟨kl, hk⟩ := keyV_key f t hf ht
  rcases h with ⟨h, _⟩ | ⟨mb', D, h, hown, hD⟩
  · cases h
  · cases h
    obtain ⟨w', hrun, hown', hg⟩ := hown.update K82 u27 hc hk (plainElem_bool u4 true)
    refine ⟨w', hrun, .inr ⟨mb, _, rfl, hown', fun f' t' kl' hk' => ?_⟩, hg⟩
    have hm : Maps.IsMap D := by
      obtain ⟨es, ck, _, _, _, rfl⟩ := hown
      exact ⟨_, rfl⟩
    by_cases he : f' = f ∧ t' = t
    · obtain ⟨rfl, rfl⟩ := he
      rw [hk] at hk'
      cases hk'
      rw [Maps.atKey_put_same hm (K82.key hk), (hbl f' t').2 (.inl ⟨rfl, rfl⟩)]
    · have hne : kl' ≠ kl := fun e => he (keyV_inj (e ▸ hk') hk)
      rw [Maps.atKey_put_other hne, hD f' t' kl' hk']
      have : bl' f' t' = bl f' t' := by
        rw [Bool.eq_iff_iff, hbl]
        exact ⟨fun h => h.resolve_left he, fun h => .inr h⟩
      rw [this]
theorem mapOk_made (w : World) : mapOk (w.alloc (.map #[] 0)) (.map (some w.heap.size)) (fun _ _ => false) 0 := by
  refine .inr ⟨_, _, rfl, World.ownsMap_made w Try.prog 82 (plainElem Try.prog 4), fun f t kl hk => ?_⟩
  rfl
theorem mapOk_mono {w : World} {vm : Value} {bl : ByteArray → ByteArray → Bool} {cnt cnt' : Nat} (h : mapOk w vm bl cnt) (hc : cnt ≤ cnt') : mapOk w vm bl cnt' := by
  rcases h with h | ⟨mb, D, h1, h2, h3⟩
  · exact .inl h
  · exact .inr ⟨mb, D, h1, h2.mono hc, h3⟩
end Go.Proofs.Ytiindnmelegkgaa
end
/- Deliver, Drop. -/
section
namespace Go.Proofs.Ytiindnmelegkgaa
open Go.RowKit
set_option linter.unusedSimpArgs false
set_option linter.unusedVariables false

/-- A region that only reads: one world serves every order. -/
theorem still_step {P : Program} {ops : Array Oper} {md : Region.Mode} {K : Act → Prop} {i : Nat} {o : Oper} {rest : List Oper} {a : Act} {W : World} (hw : Region.wanted o (yielded ops a.tmps) = true)
    (H : ∃ v, calmAt P o a (fun w' => w' = W) W v ∧ calmWalk P md ops (chainC (wsq [W]) [] []) K (i + 1) rest (a.put o.dst v)) : calmWalk P md ops (chainC (wsq [W]) [] []) K i (o :: rest) a := by
  obtain ⟨v, h, hk⟩ := H
  refine chain_any hw rfl ⟨v, fun k w hw' => ?_, hk⟩
  have hk0 : k = 0 ∧ W = w := by
    unfold wsq at hw'
    match k with
    | 0 => exact ⟨rfl, by simpa using hw'⟩
    | k + 1 => simp at hw'
  obtain ⟨rfl, rfl⟩ := hk0
  exact calmAt_mono h fun w' e => by rw [e]; exact wsq_0
theorem wp_region_still {P : Program} {id : Nat} {Q : Exit → Act → World → Prop} {a : Act} {w : World} {l : List Oper} (hm : P.follows .mixedOrders = true) (hB : Region.lexB .any l.toArray = true)
    (h : calmWalk P .any l.toArray (chainC (wsq [w.drew]) [] []) (fun a' => Q .normal a' w.drew) 0 l a) : (Code.region id l.toArray true).wp P Q a w := by
  refine wp_region_chain (wsq [w.drew]) [] [] hm hB rfl rfl wsq_0 ?_
  have mono : ∀ (l' : List Oper) (i : Nat) (a : Act), calmWalk P .any l.toArray (chainC (wsq [w.drew]) [] []) (fun a' => Q .normal a' w.drew) i l' a → calmWalk P .any l.toArray (chainC (wsq [w.drew]) [] []) (fun a' => ∀ w', wsq [w.drew] ([] : List Nat).length w' → Q .normal a' w') i l' a := by
    intro l'
    induction l' with
    | nil =>
      intro i a h w' hw
      have : w.drew = w' := by simpa [wsq] using hw
      subst this
      exact h
    | cons o rest ih =>
      intro i a h
      unfold calmWalk at h ⊢
      split at h
      · rename_i hw
        rw [if_pos hw]
        obtain ⟨v, h1, h2⟩ := h
        exact ⟨v, h1, ih _ _ h2⟩
      · rename_i hw
        rw [if_neg hw]
        exact ⟨h.1, ih _ _ h.2⟩
  exact mono l 0 a h

theorem Step.set {ρ ρ' : Nat → Nat} {w w' : World} (h : Step ρ ρ' w w') (p : Addr) (v : Value) (hp : w.heap.size ≤ p.block) : Step ρ ρ' w (w'.setCell p v) :=
  ⟨h.os, h.tape, h.output, by simpa using h.size, fun b hb h0 => (set_other (by omega)).trans (h.block b hb h0), h.role⟩
theorem Step.drew {ρ ρ' : Nat → Nat} {w w' : World} (h : Step ρ ρ' w w') : Step ρ ρ' w w'.drew := ⟨h.os, h.tape, h.output, h.size, h.block, h.role⟩
theorem Step.alloc {ρ ρ' : Nat → Nat} {w w' : World} (h : Step ρ ρ' w w') (o : Obj) : Step ρ ρ' w (w'.alloc o) :=
  ⟨h.os, h.tape, h.output, by simp; exact Nat.le_succ_of_le h.size, fun b hb h0 => (old_at (Nat.lt_of_lt_of_le hb h.size)).trans (h.block b hb h0), h.role⟩

/-- A packet in flight has been removed. -/
def Removed (ρ : Nat → Nat) (w w' : World) (p : Nat) (N : Net) (i : Nat) (x : Fl) (kind : Int) : Prop :=
  ∃ ρ' vf' ve', Rep ρ' w' p { N with fl := N.fl.eraseIdx i, evs := N.evs ++ [⟨kind, x.id, -1⟩], vf := vf', ve := ve' } ∧ Step ρ ρ' w w' ∧ ownB w' x.p.bv x.p.bs ∧ ∀ b, x.p.bv.ownBlock = some b → ρ' b = 0

def zeroPk : Value := .agg #[.string { data := #[] }, .string { data := #[] }, .slice none 0 0]
theorem deliver_nil (id : Int) (w : World) : Calls Try.prog 11 #[.pointer none, .int .i64 id] w fun e w' => e = .returned (.tuple #[zeroPk, .int .i64 1]) ∧ Below w.heap.size w w' := by
  unfold zeroPk
  go_enter Try.func11, Try.ntmps11
  go_wp2_with fail
  refine (index_nil _ _).mono ?_
  rintro e w1 ⟨rfl, rfl⟩
  go_wp2
  exact bodyPost_ret (v := .tuple #[.agg #[.string { data := #[] }, .string { data := #[] }, .slice none 0 0], .int .i64 1]) (by simp [results, Try.results11, go_sem]) rfl ⟨rfl, (Below.refl _ _).alloc (Nat.le_refl _) _⟩

theorem deliver_miss {ρ : Nat → Nat} {w : World} {p : Nat} {N : Net} (R : Rep ρ w p N) (S : Small N) {id : Int} (h : Misses N.fl id) (h1 : -9223372036854775808 ≤ id) (h2 : id ≤ 9223372036854775807) :
    Calls Try.prog 11 #[.pointer (some ⟨p, 0, none⟩), .int .i64 id] w fun e w' => e = .returned (.tuple #[zeroPk, .int .i64 9]) ∧ Below w.heap.size w w' := by
  have b0 : Below w.heap.size w (w.alloc (.cells #[.string { data := #[] }, .string { data := #[] }, .slice none 0 0] 35)) := (Below.refl _ _).alloc (Nat.le_refl _) _
  have HC := Lib.hid (index_miss (R.below b0) S h h1 h2)
  clear R S h
  unfold zeroPk
  go_enter Try.func11, Try.ntmps11
  go_wp2_with fail
  refine HC.out.mono ?_
  rintro e w1 ⟨rfl, hb⟩
  have r0 : w1.heap[w.heap.size]? = some (.cells #[.string { data := #[] }, .string { data := #[] }, .slice none 0 0] 35 (0, 0)) := (hb.block _ (by simp)).trans (new_at rfl)
  have u0 := cell_of_row w1 _ 0 _ _ _ r0
  have u1 := cell_of_row w1 _ 1 _ _ _ r0
  have u2 := cell_of_row w1 _ 2 _ _ _ r0
  have v0 := frozen_blk r0 0
  have v1 := frozen_blk r0 1
  have v2 := frozen_blk r0 2
  simp at u0 u1 u2
  go_wp2
  exact bodyPost_ret (v := .tuple #[.agg #[.string { data := #[] }, .string { data := #[] }, .slice none 0 0], .int .i64 9]) (by simp [results, Try.results11, go_sem, u0, u1, u2]) rfl ⟨rfl, (((b0.trans (hb.mono (by simp))).setCell (p := ⟨_, _, _⟩) (Nat.le_refl _) _).setCell (p := ⟨_, _, _⟩) (Nat.le_refl _) _).setCell (p := ⟨_, _, _⟩) (Nat.le_refl _) _⟩

set_option maxHeartbeats 1000000 in
set_option maxRecDepth 100000 in
theorem deliver_blocked {ρ : Nat → Nat} {w : World} {p : Nat} {N : Net} (R : Rep ρ w p N) (S : Small N) {id : Int} {i : Nat} {x : Fl} (h : Hits N.fl id i x) (hbl : N.bl x.p.frm x.p.to = true) :
    Calls Try.prog 11 #[.pointer (some ⟨p, 0, none⟩), .int .i64 id] w fun e w' => e = .returned (.tuple #[zeroPk, .int .i64 8]) ∧ Below w.heap.size w w' := by
  have b0 : Below w.heap.size w (w.alloc (.cells #[.string { data := #[] }, .string { data := #[] }, .slice none 0 0] 35)) := (Below.refl _ _).alloc (Nat.le_refl _) _
  have HC := Lib.hid (index_hit (R.below b0) S h)
  have R0 := R.below b0
  have HR := Lib.hid R0
  have HX := Lib.hid h.1
  have hv := R.fok x (List.mem_of_getElem? h.1)
  simp only [validB, hostB, Bool.and_eq_true, decide_eq_true_eq] at hv
  have s1 : x.p.frm.size ≤ maxLen := by simp [maxLen]; omega
  have s2 : x.p.to.size ≤ maxLen := by simp [maxLen]; omega
  have HL : Hid (∀ w', mapOk w' N.vm N.bl N.cnt → (Instr.lookup 27 N.vm (.agg #[.string x.p.frm, .string x.p.to]) false).run Try.prog w' = .ok (.bool true) w') := Lib.hid fun w' hm => by
    have := lookup_run hm x.p.frm x.p.to s1 s2
    rw [hbl] at this
    exact this
  have hil : i < N.fl.length := (List.getElem?_eq_some_iff.1 h.1).1
  obtain ⟨g, cap, cur, hvf, _⟩ := row_addr R.f (by omega)
  obtain ⟨n, hn⟩ : ∃ n, N.fl.length = n := ⟨_, rfl⟩
  rw [hn] at hvf hil
  clear R S h hv s1 s2 hbl R0
  unfold zeroPk
  go_enter Try.func11, Try.ntmps11
  go_wp2_with fail
  refine HC.out.mono ?_
  rintro e w1 ⟨rfl, hb⟩
  have R1 := HR.out.below hb
  have r0 : w1.heap[w.heap.size]? = some (.cells #[.string { data := #[] }, .string { data := #[] }, .slice none 0 0] 35 (0, 0)) := (hb.block _ (by simp)).trans (new_at rfl)
  have b1 : Below w.heap.size w w1 := b0.trans (hb.mono (by simp))
  go_wp2_with fail
  obtain ⟨c0, c1, c2, c3, c4, fr⟩ := net_cells R1
  rw [hvf] at c0
  have rf1 := R1.f
  rw [hvf, hn] at rf1
  have m0 := fl_at rf1 HX.out hn 0 (by decide)
  have m1 := fl_at rf1 HX.out hn 1 (by decide)
  simp [Fl.cells] at m0 m1
  have hlk := HL.out w1.drew R1.m
  have HR1 := Lib.hid R1
  clear R1 c1 c2 c4 fr rf1
  refine wp_region_still (by kernel_rfl) (by kernel_rfl) ?_
  iterate 25 (refine still_step rfl ?_; apply Exists.intro; refine ⟨?_, ?_⟩; (focus (unfold calmAt calmUpon; go_simp; rfl)); (simp only [Act.put, List.setIfInBounds_toArray, List.set_cons_succ, List.set_cons_zero]))
  refine calm_nil ?_
  have u0 := cell_of_row w1 _ 0 _ _ _ r0
  have u1 := cell_of_row w1 _ 1 _ _ _ r0
  have u2 := cell_of_row w1 _ 2 _ _ _ r0
  have v0 := frozen_blk r0 0
  have v1 := frozen_blk r0 1
  have v2 := frozen_blk r0 2
  simp at u0 u1 u2
  clear hlk m0 m1
  go_wp2
  exact bodyPost_ret (v := .tuple #[.agg #[.string { data := #[] }, .string { data := #[] }, .slice none 0 0], .int .i64 8]) (by simp [results, Try.results11, go_sem, u0, u1, u2]) rfl ⟨rfl, ((b1.drew.setCell (p := ⟨_, _, _⟩) (Nat.le_refl _) _).setCell (p := ⟨_, _, _⟩) (Nat.le_refl _) _).setCell (p := ⟨_, _, _⟩) (Nat.le_refl _) _⟩

set_option maxHeartbeats 1000000 in
set_option maxRecDepth 100000 in
theorem deliver_ok {ρ : Nat → Nat} {w : World} {p : Nat} {N : Net} (R : Rep ρ w p N) (S : Small N) {id : Int} {i : Nat} {x : Fl} (h : Hits N.fl id i x) (hbl : N.bl x.p.frm x.p.to = false) :
    Calls Try.prog 11 #[.pointer (some ⟨p, 0, none⟩), .int .i64 id] w fun e w' => e = .returned (.tuple #[x.p.val, .int .i64 0]) ∧ Removed ρ w w' p N i x 2 := by
  have b0 : Below w.heap.size w (w.alloc (.cells #[.string { data := #[] }, .string { data := #[] }, .slice none 0 0] 35)) := (Below.refl _ _).alloc (Nat.le_refl _) _
  have HC := Lib.hid (index_hit (R.below b0) S h)
  have R0 := R.below b0
  have HR := Lib.hid R0
  have HS := Lib.hid S
  have HX := Lib.hid h.1
  have hxl : ∀ b, x.p.bv.ownBlock = some b → b < w.heap.size := fun b hb => R.lt (by rw [R.rfb x (List.mem_of_getElem? h.1) b hb]; omega)
  have hr0 : ρ w.heap.size = 0 := R.far _ (Nat.le_refl _)
  have hv := R.fok x (List.mem_of_getElem? h.1)
  simp only [validB, hostB, Bool.and_eq_true, decide_eq_true_eq] at hv
  have s1 : x.p.frm.size ≤ maxLen := by simp [maxLen]; omega
  have s2 : x.p.to.size ≤ maxLen := by simp [maxLen]; omega
  have HL : Hid (∀ w', mapOk w' N.vm N.bl N.cnt → (Instr.lookup 27 N.vm (.agg #[.string x.p.frm, .string x.p.to]) false).run Try.prog w' = .ok (.bool false) w') := Lib.hid fun w' hm => by
    have := lookup_run hm x.p.frm x.p.to s1 s2
    rw [hbl] at this
    exact this
  have hil : i < N.fl.length := (List.getElem?_eq_some_iff.1 h.1).1
  obtain ⟨g, cap, cur, hvf, _⟩ := row_addr R.f (by omega)
  obtain ⟨ba, bc, hbv⟩ := ownB_slice (R.fb x (List.mem_of_getElem? h.1))
  obtain ⟨n, hn⟩ : ∃ n, N.fl.length = n := ⟨_, rfl⟩
  rw [hn] at hvf hil
  clear R S h hv s1 s2 hbl R0
  go_enter Try.func11, Try.ntmps11
  go_wp2_with fail
  refine HC.out.mono ?_
  rintro e w1 ⟨rfl, hb⟩
  have R1 := HR.out.below hb
  have r0 : w1.heap[w.heap.size]? = some (.cells #[.string { data := #[] }, .string { data := #[] }, .slice none 0 0] 35 (0, 0)) := (hb.block _ (by simp)).trans (new_at rfl)
  have b1 : Below w.heap.size w w1 := b0.trans (hb.mono (by simp))
  go_wp2_with fail
  obtain ⟨c0, c1, c2, c3, c4, fr⟩ := net_cells R1
  rw [hvf] at c0
  have rf1 := R1.f
  rw [hvf, hn] at rf1
  have m0 := fl_at rf1 HX.out hn 0 (by decide)
  have m1 := fl_at rf1 HX.out hn 1 (by decide)
  simp [Fl.cells] at m0 m1
  have hlk := HL.out w1.drew R1.m
  have HR1 := Lib.hid R1
  clear R1 c1 c2 c4 fr rf1
  refine wp_region_still (by kernel_rfl) (by kernel_rfl) ?_
  iterate 25 (refine still_step rfl ?_; apply Exists.intro; refine ⟨?_, ?_⟩; (focus (unfold calmAt calmUpon; go_simp; rfl)); (simp only [Act.put, List.setIfInBounds_toArray, List.set_cons_succ, List.set_cons_zero]))
  refine calm_nil ?_
  clear hlk m0 m1 c0 c3
  have HB1 := Lib.hid b1
  have HH := Lib.hid hvf
  clear hvf b1 hb
  go_wp2_with fail
  have R2 : Rep ρ w1.drew p N := HR1.out.stays (Nat.le_refl _) fun _ _ => rfl
  refine (remove_any R2 HS.out i x HX.out 2).mono ?_
  rintro e w2 ⟨rfl, ρ', vf', ve', R3, S3, O3, F3⟩
  have hlt : w.heap.size < w1.drew.heap.size := by
    have := (Array.getElem?_eq_some_iff.1 r0).1
    exact this
  have r2 := (S3.block w.heap.size hlt hr0).trans r0
  have ρ0 := S3.role w.heap.size hlt hr0
  have u0 := cell_of_row w2 _ 0 _ _ _ r2
  have u1 := cell_of_row w2 _ 1 _ _ _ r2
  have u2 := cell_of_row w2 _ 2 _ _ _ r2
  have v0 := frozen_blk r2 0
  have v1 := frozen_blk r2 1
  have v2 := frozen_blk r2 2
  simp at u0 u1 u2
  have ST : Step ρ ρ' w w2 := (Below.step HB1.out).trans (((Step.refl ρ w1).drew).trans S3)
  obtain ⟨⟨xf, xt, xb, xbs⟩, xid, xsrc⟩ := x
  dsimp only at *
  subst hbv
  obtain ⟨w3, hw3⟩ : ∃ w3, w3 = ((w2.setCell ⟨w.heap.size, 0, none⟩ (.string xf)).setCell ⟨w.heap.size, 1, none⟩ (.string xt)).setCell ⟨w.heap.size, 2, none⟩ (.slice ba xbs.length bc) := ⟨_, rfl⟩
  have s3 : ∀ b, b ≠ w.heap.size → w3.heap[b]? = w2.heap[b]? := fun b hb => by rw [hw3]; exact (set_other hb).trans ((set_other hb).trans (set_other hb))
  have z3 : w3.heap.size = w2.heap.size := by rw [hw3]; simp
  have ST3 : Step ρ ρ' w w3 := by rw [hw3]; exact ((ST.set _ _ (Nat.le_refl _)).set _ _ (Nat.le_refl _)).set _ _ (Nat.le_refl _)
  have R4 : Rep ρ' w3 p _ := R3.stays (by omega) fun b hb => s3 b (fun e => hb (by rw [e]; exact ρ0))
  have O4 : ownB w3 (.slice ba xbs.length bc) xbs := row_stays O3 fun b hb => s3 b (by have := hxl b hb; omega)
  have END : Hid (Removed ρ w w3 p N i ⟨⟨xf, xt, .slice ba xbs.length bc, xbs⟩, xid, xsrc⟩ 2) := Lib.hid ⟨ρ', vf', ve', R4, ST3, O4, F3⟩
  have HW3 := Lib.hid hw3
  clear hw3 s3 z3 ST3 R4 O4 ST R3 S3 O3 F3 hxl ρ0 R2
  unfold Pk.val
  dsimp only
  go_wp2
  have EE := END.out
  rw [HW3.out] at EE
  exact bodyPost_ret (v := .tuple #[.agg #[.string xf, .string xt, .slice ba xbs.length bc], .int .i64 0]) (by simp [results, Try.results11, go_sem, u0, u1, u2]) rfl ⟨rfl, EE⟩
end Go.Proofs.Ytiindnmelegkgaa
end
/- Source, Replay, Duplicate. -/
section
namespace Go.Proofs.Ytiindnmelegkgaa
open Go.RowKit
set_option linter.unusedSimpArgs false
set_option linter.unusedVariables false


theorem source_hit {ρ : Nat → Nat} {w : World} {p : Nat} {N : Net} (R : Rep ρ w p N) (S : Small N) {id : Int} {i : Nat} {x : Fl} (h : Hits N.fl id i x) :
    Calls Try.prog 25 #[.pointer (some ⟨p, 0, none⟩), .int .i64 id] w fun e w' => e = .returned (.tuple #[.int .i64 x.src, .int .i64 0]) ∧ Below w.heap.size w w' := by
  have HC := Lib.hid (index_hit R S h)
  have HR := Lib.hid R
  have HX := Lib.hid h.1
  have hil : i < N.fl.length := (List.getElem?_eq_some_iff.1 h.1).1
  obtain ⟨g, cap, cur, hvf, _⟩ := row_addr R.f (by omega)
  obtain ⟨n, hn⟩ : ∃ n, N.fl.length = n := ⟨_, rfl⟩
  rw [hn] at hvf hil
  clear R S h
  go_enter Try.func25, Try.ntmps25
  go_wp2_with fail
  refine HC.out.mono ?_
  rintro e w1 ⟨rfl, hb⟩
  have R1 := HR.out.below hb
  obtain ⟨c0, c1, c2, c3, c4, fr⟩ := net_cells R1
  rw [hvf] at c0
  have rf1 := R1.f
  rw [hvf, hn] at rf1
  have m4 := fl_at rf1 HX.out hn 4 (by decide)
  simp [Fl.cells] at m4
  clear R1 c1 c2 c3 c4 fr rf1
  go_wp2
  go_ret2
  exact ⟨rfl, hb⟩

theorem hist_at {w : World} {g cap : Nat} {hi : List Pk} {m : Nat} (h : w.ownsRow 0 35 3 (.slice (some ⟨g, 0, none⟩) m cap) m (hi.flatMap Pk.cells)) {k : Nat} {x : Pk} (hk : hi[k]? = some x) (hm : hi.length = m) :
    ∀ i, i < 3 → w.cell? ⟨g, k * 3 + i, none⟩ = x.cells[i]? := by
  intro i hi'
  have hlt : k < hi.length := (List.getElem?_eq_some_iff.1 hk).1
  rw [h.cellAt _ (by omega), flat_get Pk.cells 3 (fun _ => rfl) hi k i hi', hk]
  rfl

/-- A packet has been put in flight. -/
def Launched (ρ : Nat → Nat) (w w' : World) (p : Nat) (N : Net) (q : Pk) (src : Int) (kind frm : Int) : Prop :=
  ∃ bv' vf' ve' ρ', Rep ρ' w' p { N with fl := N.fl ++ [⟨{ q with bv := bv' }, N.next, src⟩], evs := N.evs ++ [⟨kind, N.next, frm⟩], next := N.next + 1, vf := vf', ve := ve' } ∧ Step ρ ρ' w w'

theorem replay_ok {ρ : Nat → Nat} {w : World} {p : Nat} {N : Net} (R : Rep ρ w p N) (S : Small N) (k : Nat) (q : Pk) (hk : N.hist[k]? = some q) (hf : N.fl.length < 64) :
    Calls Try.prog 14 #[.pointer (some ⟨p, 0, none⟩), .int .i64 k] w fun e w' => e = .returned (.tuple #[.int .i64 N.next, .int .i64 0]) ∧ Launched ρ w w' p N q k 7 k := by
  have hqm := List.mem_of_getElem? hk
  have hkl : k < N.hist.length := (List.getElem?_eq_some_iff.1 hk).1
  have hv := R.hok q hqm
  have hbl : q.bs.length ≤ 1099511627776 := by
    simp only [validB, Bool.and_eq_true, decide_eq_true_eq] at hv; omega
  obtain ⟨bv', vf', ve', ρ', w', R', S', call⟩ := launch_any ρ w p N R 7 q k k (ownB_rd (R.hb q hqm) hbl) hv (Nat.le_trans S.next (by decide)) (Nat.le_trans S.evs (by decide)) (by omega) (fun _ e => by have := R.rhb q hqm p e; rw [R.rp] at this; cases this)
  have END : Hid (Launched ρ w w' p N q k 7 k) := Lib.hid ⟨bv', vf', ve', ρ', R', S'⟩
  have HC := Lib.hid call
  obtain ⟨c0, c1, c2, c3, c4, fr⟩ := net_cells R
  obtain ⟨fa, fc, hvf⟩ := row_slice R.f
  obtain ⟨g, cap, cur, hvh, _⟩ := row_addr R.h (by omega)
  have rh := R.h
  obtain ⟨n, hn⟩ : ∃ n, N.hist.length = n := ⟨_, rfl⟩
  rw [hvf] at c0
  rw [hvh] at c1
  rw [hvh, hn] at rh
  rw [hn] at hkl c1
  have m0 := hist_at rh hk hn 0 (by decide)
  have m1 := hist_at rh hk hn 1 (by decide)
  have m2 := hist_at rh hk hn 2 (by decide)
  simp [Pk.cells] at m0 m1 m2
  generalize N.fl.length = n1 at *
  clear call R' S' R S c2 c3 c4 fr rh hv hbl
  unfold Pk.val at HC
  go_enter Try.func14, Try.ntmps14
  go_wp2_with fail
  refine HC.out.mono ?_
  rintro e w1 ⟨rfl, rfl⟩
  go_wp2
  go_ret2
  exact ⟨rfl, END.out⟩

set_option maxHeartbeats 1000000 in
set_option maxRecDepth 100000 in
theorem dup_ok {ρ : Nat → Nat} {w : World} {p : Nat} {N : Net} (R : Rep ρ w p N) (S : Small N) {id : Int} {i : Nat} {x : Fl} (h : Hits N.fl id i x) (hf : N.fl.length < 64) :
    Calls Try.prog 15 #[.pointer (some ⟨p, 0, none⟩), .int .i64 id] w fun e w' => e = .returned (.tuple #[.int .i64 N.next, .int .i64 0]) ∧ Launched ρ w w' p N x.p x.src 4 id := by
  have HC := Lib.hid (index_hit R S h)
  have HR := Lib.hid R
  have HX := Lib.hid h.1
  have HS := Lib.hid S
  have hil : i < N.fl.length := (List.getElem?_eq_some_iff.1 h.1).1
  obtain ⟨g, cap, cur, hvf, _⟩ := row_addr R.f (by omega)
  obtain ⟨n, hn⟩ : ∃ n, N.fl.length = n := ⟨_, rfl⟩
  rw [hn] at hvf hil hf
  clear R S h
  go_enter Try.func15, Try.ntmps15
  go_wp2_with fail
  refine HC.out.mono ?_
  rintro e w1 ⟨rfl, hb⟩
  have R1 := HR.out.below hb
  obtain ⟨c0, c1, c2, c3, c4, fr⟩ := net_cells R1
  rw [hvf] at c0
  have rf1 := R1.f
  rw [hvf, hn] at rf1
  have m0 := fl_at rf1 HX.out hn 0 (by decide)
  have m1 := fl_at rf1 HX.out hn 1 (by decide)
  have m2 := fl_at rf1 HX.out hn 2 (by decide)
  have m4 := fl_at rf1 HX.out hn 4 (by decide)
  simp [Fl.cells] at m0 m1 m2 m4
  have hxm := List.mem_of_getElem? HX.out
  have hv := R1.fok x hxm
  have hbl : x.p.bs.length ≤ 1099511627776 := by
    simp only [validB, Bool.and_eq_true, decide_eq_true_eq] at hv; omega
  have R2 : Rep ρ w1.drew p N := R1.stays (Nat.le_refl _) fun _ _ => rfl
  obtain ⟨bv', vf', ve', ρ', w', R', S', call⟩ := launch_any ρ w1.drew p N R2 4 x.p x.src id (ownB_rd (R2.fb x hxm) hbl) hv (Nat.le_trans HS.out.next (by decide)) (Nat.le_trans HS.out.evs (by decide)) (by omega) (fun _ e => by have := R1.rfb x hxm p e; rw [R1.rp] at this; omega)
  have END : Hid (Launched ρ w w' p N x.p x.src 4 id) := Lib.hid ⟨bv', vf', ve', ρ', R', (Below.step hb).trans (((Step.refl ρ w1).drew).trans S')⟩
  have HC4 := Lib.hid call
  clear call R' S' R1 R2 c1 c2 c3 c4 fr rf1 hv hbl hb hxm
  unfold Pk.val at HC4
  go_wp2_with fail
  refine wp_region_chain (wsq [w1.drew, w']) [18] [(4, 1), (8, 1), (12, 1), (16, 1)] (by kernel_rfl) (by kernel_rfl) (by kernel_rfl) (by kernel_rfl) wsq_0 ?_
  iterate 4 (refine chain_pure rfl rfl ?_; apply Exists.intro; refine ⟨fun ww => ?_, ?_⟩; (focus (unfold calmAt calmUpon; go_simp; rfl)); (simp only [Act.put, List.setIfInBounds_toArray, List.set_cons_succ, List.set_cons_zero]))
  (refine chain_load rfl rfl 1 (by simp) ?_; apply Exists.intro; refine ⟨fun k ww hk hww => ?_, ?_⟩; (focus (have e := wsq_lt1 hk hww; subst e; unfold calmAt calmUpon; go_simp; rfl)); (simp only [Act.put, List.setIfInBounds_toArray, List.set_cons_succ, List.set_cons_zero]))
  iterate 3 (refine chain_pure rfl rfl ?_; apply Exists.intro; refine ⟨fun ww => ?_, ?_⟩; (focus (unfold calmAt calmUpon; go_simp; rfl)); (simp only [Act.put, List.setIfInBounds_toArray, List.set_cons_succ, List.set_cons_zero]))
  (refine chain_load rfl rfl 1 (by simp) ?_; apply Exists.intro; refine ⟨fun k ww hk hww => ?_, ?_⟩; (focus (have e := wsq_lt1 hk hww; subst e; unfold calmAt calmUpon; go_simp; rfl)); (simp only [Act.put, List.setIfInBounds_toArray, List.set_cons_succ, List.set_cons_zero]))
  iterate 3 (refine chain_pure rfl rfl ?_; apply Exists.intro; refine ⟨fun ww => ?_, ?_⟩; (focus (unfold calmAt calmUpon; go_simp; rfl)); (simp only [Act.put, List.setIfInBounds_toArray, List.set_cons_succ, List.set_cons_zero]))
  (refine chain_load rfl rfl 1 (by simp) ?_; apply Exists.intro; refine ⟨fun k ww hk hww => ?_, ?_⟩; (focus (have e := wsq_lt1 hk hww; subst e; unfold calmAt calmUpon; go_simp; rfl)); (simp only [Act.put, List.setIfInBounds_toArray, List.set_cons_succ, List.set_cons_zero]))
  iterate 3 (refine chain_pure rfl rfl ?_; apply Exists.intro; refine ⟨fun ww => ?_, ?_⟩; (focus (unfold calmAt calmUpon; go_simp; rfl)); (simp only [Act.put, List.setIfInBounds_toArray, List.set_cons_succ, List.set_cons_zero]))
  (refine chain_load rfl rfl 1 (by simp) ?_; apply Exists.intro; refine ⟨fun k ww hk hww => ?_, ?_⟩; (focus (have e := wsq_lt1 hk hww; subst e; unfold calmAt calmUpon; go_simp; rfl)); (simp only [Act.put, List.setIfInBounds_toArray, List.set_cons_succ, List.set_cons_zero]))
  iterate 1 (refine chain_pure rfl rfl ?_; apply Exists.intro; refine ⟨fun ww => ?_, ?_⟩; (focus (unfold calmAt calmUpon; go_simp; rfl)); (simp only [Act.put, List.setIfInBounds_toArray, List.set_cons_succ, List.set_cons_zero]))
  refine chain_write (by kernel_rfl) rfl 0 rfl (by rfl) ?_
  apply Exists.intro
  refine ⟨fun ww hww => ?_, ?_⟩
  focus
    have e := wsq_lt1 (Nat.zero_lt_one) hww
    subst e
    unfold calmAt calmUpon
    go_simp
    refine HC4.out.mono ?_
    rintro e w1 ⟨rfl, rfl⟩
    exact ⟨rfl, rfl⟩
  (simp only [Act.put, List.setIfInBounds_toArray, List.set_cons_succ, List.set_cons_zero])
  iterate 2 (refine chain_pure rfl rfl ?_; apply Exists.intro; refine ⟨fun ww => ?_, ?_⟩; (focus (unfold calmAt calmUpon; go_simp; rfl)); (simp only [Act.put, List.setIfInBounds_toArray, List.set_cons_succ, List.set_cons_zero]))
  refine calm_nil ?_
  intro ww hww
  have e : w' = ww := by simpa [wsq] using hww
  subst e
  clear hww
  go_wp2
  go_ret2
  exact ⟨rfl, END.out⟩
end Go.Proofs.Ytiindnmelegkgaa
end

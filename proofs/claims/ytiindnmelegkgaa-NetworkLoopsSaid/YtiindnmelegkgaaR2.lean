/- The reference's leaves. -/
import Derived.Test.YtiindnmelegkgaaKnown
section
namespace Go.Proofs.Ytiindnmelegkgaa
open Go.RowKit
set_option linter.unusedSimpArgs false
set_option linter.unusedVariables false

theorem u61 : Try.prog.underlying 61 = some (.slice 69) := by kernel_rfl
theorem u62 : Try.prog.underlying 62 = some (.slice 82) := by kernel_rfl
theorem info69 : (Try.prog.info? 69).map (fun i => (i.zero, i.size, i.bytes)) = some (some (.agg #[.string { data := #[] }, .string { data := #[] }, .slice none 0 0, .int .i64 0, .bool false]), 5, 72) := by kernel_rfl
theorem info82 : (Try.prog.info? 82).map (fun i => (i.zero, i.size, i.bytes)) = some (some (.agg #[.string { data := #[] }, .string { data := #[] }]), 2, 32) := by kernel_rfl

/-- A packet that was put in flight. -/
structure RFl where
  p : Pk
  src : Int
  gone : Bool
def RFl.cells (x : RFl) : List Value := [.string x.p.frm, .string x.p.to, x.p.bv, .int .i64 x.src, .bool x.gone]
def bpCells (x : ByteArray × ByteArray) : List Value := [.string x.1, .string x.2]
structure RNet where
  all : List RFl
  hist : List Pk
  evs : List Ev
  blk : List (ByteArray × ByteArray)
  va : Value
  vh : Value
  ve : Value
  vb : Value
def RNet.val (N : RNet) : Value := .agg #[N.va, N.vh, N.ve, N.vb]
/-- A reference's network in memory. -/
structure ROk (w : World) (N : RNet) : Prop where
  a : w.ownsRow 0 69 5 N.va N.all.length (N.all.flatMap RFl.cells)
  h : w.ownsRow 0 35 3 N.vh N.hist.length (N.hist.flatMap Pk.cells)
  e : w.ownsRow 0 59 3 N.ve N.evs.length (N.evs.flatMap Ev.cells)
  b : w.ownsRow 0 82 2 N.vb N.blk.length (N.blk.flatMap bpCells)
  ab : ∀ x ∈ N.all, ownB w x.p.bv x.p.bs
  hb : ∀ q ∈ N.hist, ownB w q.bv q.bs
  aok : ∀ x ∈ N.all, validB x.p = true
  hok : ∀ q ∈ N.hist, validB q = true
/-- The blocks of a reference's network. -/
def RB (N : RNet) (b : Nat) : Prop :=
  N.va.ownBlock = some b ∨ N.vh.ownBlock = some b ∨ N.ve.ownBlock = some b ∨ N.vb.ownBlock = some b ∨ (∃ x ∈ N.all, x.p.bv.ownBlock = some b) ∨ ∃ q ∈ N.hist, q.bv.ownBlock = some b
structure RSmall (N : RNet) : Prop where
  all : N.all.length ≤ 1000000
  hist : N.hist.length ≤ 1000000
  evs : N.evs.length ≤ 1000000
  blk : N.blk.length ≤ 1000000
theorem ROk.stays {w w' : World} {N : RNet} (R : ROk w N) (he : ∀ b, RB N b → w'.heap[b]? = w.heap[b]?) : ROk w' N where
  a := row_stays R.a fun b hb => he b (.inl hb)
  h := row_stays R.h fun b hb => he b (.inr (.inl hb))
  e := row_stays R.e fun b hb => he b (.inr (.inr (.inl hb)))
  b := row_stays R.b fun b hb => he b (.inr (.inr (.inr (.inl hb))))
  ab := fun x hx => row_stays (R.ab x hx) fun b hb => he b (.inr (.inr (.inr (.inr (.inl ⟨x, hx, hb⟩)))))
  hb := fun x hx => row_stays (R.hb x hx) fun b hb => he b (.inr (.inr (.inr (.inr (.inr ⟨x, hx, hb⟩)))))
  aok := R.aok
  hok := R.hok
theorem ROk.lt {w : World} {N : RNet} (R : ROk w N) {b : Nat} (h : RB N b) : b < w.heap.size := by
  rcases h with h | h | h | h | ⟨x, hx, h⟩ | ⟨x, hx, h⟩
  · exact (R.a.lt b h).2
  · exact (R.h.lt b h).2
  · exact (R.e.lt b h).2
  · exact (R.b.lt b h).2
  · exact ((R.ab x hx).lt b h).2
  · exact ((R.hb x hx).lt b h).2
theorem ROk.below {w w' : World} {N : RNet} (R : ROk w N) (hb : Below w.heap.size w w') : ROk w' N := R.stays fun b h => hb.block b (R.lt h)

theorem rhost_any (s : ByteArray) (w : World) : Calls Try.prog 70 #[.string s] w fun e w' => e = .returned (.bool (hostB s)) ∧ w = w' := by
  unfold hostB
  by_cases h1 : 1 ≤ s.size
  · have h1' : (0 : Int) < s.size := by omega
    by_cases h2 : s.size ≤ 32
    · have h2' : (s.size : Int) ≤ 32 := by omega
      go_enter Try.func70, Try.ntmps70
      go_wp2
      go_ret
      refine ⟨?_, rfl⟩
      simp [h1, h2, h2']
    · have h2' : ¬ (s.size : Int) ≤ 32 := by omega
      go_enter Try.func70, Try.ntmps70
      go_wp2
      go_ret
      refine ⟨?_, rfl⟩
      simp [h1, h2, h2']
  · go_enter Try.func70, Try.ntmps70
    go_wp2
    go_ret
    refine ⟨?_, rfl⟩
    simp [h1]

theorem rvalid_any (p : Pk) (w : World) (hr : rdB w p.bv p.bs) : Calls Try.prog 72 #[p.val] w fun e w'' => e = .returned (.bool (validB p)) ∧ Below w.heap.size w w'' := by
  obtain ⟨a, n, c, hv, hn⟩ := hr.lt
  have hl := hr.1
  have hbb : Below w.heap.size w (w.alloc (.cells #[.string p.frm, .string p.to, p.bv] 35)) := (Below.refl _ _).alloc (Nat.le_refl _) _
  clear hr
  unfold Pk.val validB
  rw [hv] at hbb ⊢
  generalize p.bs.length = L at hn hl ⊢
  subst hn
  cases h1 : hostB p.frm
  · go_enter Try.func72, Try.ntmps72
    go_wp2_with fail
    refine (rhost_any _ _).mono ?_
    rintro e w1 ⟨rfl, rfl⟩
    rw [h1]
    go_wp2
    go_ret
    exact ⟨by simp, hbb⟩
  · cases h2 : hostB p.to
    · go_enter Try.func72, Try.ntmps72
      go_wp2_with fail
      refine (rhost_any _ _).mono ?_
      rintro e w1 ⟨rfl, rfl⟩
      rw [h1]
      go_wp2_with fail
      refine (rhost_any _ _).mono ?_
      rintro e w1 ⟨rfl, rfl⟩
      rw [h2]
      go_wp2
      go_ret
      exact ⟨by simp, hbb⟩
    · go_enter Try.func72, Try.ntmps72
      go_wp2_with fail
      refine (rhost_any _ _).mono ?_
      rintro e w1 ⟨rfl, rfl⟩
      rw [h1]
      go_wp2_with fail
      refine (rhost_any _ _).mono ?_
      rintro e w1 ⟨rfl, rfl⟩
      rw [h2]
      go_wp2
      go_ret
      refine ⟨?_, hbb⟩
      show Ending.returned (.bool (decide ((n : Int) ≤ 65536))) = _
      have e : ((n : Int) ≤ 65536) = (n ≤ 65536) := by rw [eq_iff_iff]; omega
      simp [e]

theorem run_append_of_nil {P : Program} (w : World) (base : Nat) (t ty e : TypeId) (i : TypeInfo) (size : Nat) (ht : P.underlying t = some (.slice e)) (hi : P.info? e = some i)
    (v : Value) (n : Nat) (xs : List Value) (hown : w.ownsRow base e size v n xs) (c : Nat) : (Builtin.append_ #[t, t] ty #[v, .slice none 0 c]).run P w = .ok v w := by
  rcases hown.2 with ⟨rfl, rfl⟩ | ⟨g, cap, cur, rfl, _, _, hnc, _⟩
  · simp [Builtin.append_, run_underlying ht, sizeOf, typeInfo, hi, Builtin.lenOf, Builtin.firstCells]
  · simp [Builtin.append_, run_underlying ht, sizeOf, typeInfo, hi, Builtin.lenOf, Builtin.firstCells, hnc, storeCells]

/-- The run of append([]byte(nil), s...). -/
theorem app_bytes (w : World) (v : Value) (bs : List Int) (hr : rdB w v bs) : ∃ v' w', (Builtin.append_ #[33, 33] 33 #[.slice none 0 0, v]).run Try.prog w = .ok v' w' ∧ ownB w' v' bs ∧ (∀ b, v'.ownBlock = some b → w.heap.size ≤ b) ∧ Below w.heap.size w w' := by
  obtain ⟨i0, hi, hz0, hz1, hz2⟩ := info_parts info5
  obtain ⟨hl, hr⟩ := hr
  have hr' : (v = .slice none 0 0 ∧ bs = []) ∨ ∃ (ad : Addr) (c : Nat), v = .slice (some ad) bs.length c ∧ ∀ j u, (bs.map (Value.int .u8))[j]? = some u → w.cell? (ad.add j) = some u := by
    rcases hr with h | ⟨b, off, c, h, _, hc⟩ | ⟨h0, a, c, h⟩
    · exact .inl h
    · exact .inr ⟨_, c, h, fun j u hu => by rw [Addr.add_lit]; exact hc j u hu⟩
    · subst h0; exact .inr ⟨a, c, h, by simp⟩
  clear hr
  rcases hr' with ⟨rfl, rfl⟩ | ⟨ad, c, rfl, hc⟩
  · exact ⟨.slice none 0 0, w, run_append_of_nil w 0 33 33 5 i0 1 u33 hi _ 0 [] (World.ownsRow_nil _ _ _ _) 0, World.ownsRow_nil _ _ _ _, by simp [Value.ownBlock], Below.refl _ _⟩
  · obtain ⟨v', w', hrun, hown, hgrow, hnil⟩ := run_append_own_wide (P := Try.prog) w w.heap.size 33 33 5 i0 (.int .u8 0) 1 1 u33 hi hz0 hz1 hz2 rfl (by decide) (.slice none 0 0) 0 [] (World.ownsRow_nil _ _ _ _) ad bs.length c (bs.map (Value.int .u8)) (by simp)
      (fun j u hu => hc j u hu) (by simp [Value.oneCell']) (by simp [maxLen]; omega) (by omega) (Nat.le_refl _)
    refine ⟨v', w', hrun, ⟨by simp, ?_⟩, fun b' e => (hown.lt b' e).1, (Below.refl _ w).grown hgrow (Nat.le_refl _) (by intro k hk; simp [Value.ownBlock] at hk)⟩
    rcases hown.2 with ⟨rfl, h2⟩ | ⟨g, cap, cur, rfl, hg, h3, h4, h5, h6, h7⟩
    · exact .inl ⟨rfl, by simpa using h2⟩
    · refine .inr ⟨g, cap, cur, by simp, Nat.zero_le _, h3, by simpa using h4, h5, h6, by simpa using h7⟩

set_option maxRecDepth 100000 in
theorem rown_run (p : Pk) (w : World) (hr : rdB w p.bv p.bs) : ∃ v' w', ownB w' v' p.bs ∧ (∀ b, v'.ownBlock = some b → w.heap.size ≤ b) ∧ Below w.heap.size w w' ∧ Calls Try.prog 62 #[p.val] w fun e w'' => e = .returned (Pk.val { p with bv := v' }) ∧ w' = w'' := by
  obtain ⟨frm, to, bv, bs⟩ := p
  obtain ⟨w2, hw2⟩ : ∃ w2, w2 = (w.alloc (.cells #[.string frm, .string to, bv] 35)).alloc (.cells #[.string { data := #[] }, .string { data := #[] }, .slice none 0 0] 35) := ⟨_, rfl⟩
  have hb2 : Below w.heap.size w w2 := by rw [hw2]; exact ((Below.refl _ _).alloc (Nat.le_refl _) _).alloc (by simp) _
  obtain ⟨v', w', hrun, hown, hfar, hb⟩ := app_bytes w2 bv bs (hr.below hb2)
  have hsz : w2.heap.size = w.heap.size + 2 := by rw [hw2]; simp
  have h1 : w'.heap[w.heap.size]? = some (.cells #[.string frm, .string to, bv] 35 (0, 0)) := by
    rw [hb.block _ (by omega), hw2, old_at (by simp)]; exact new_at rfl
  have h2 : w'.heap[w.heap.size + 1]? = some (.cells #[.string { data := #[] }, .string { data := #[] }, .slice none 0 0] 35 (0, 0)) := by
    rw [hb.block _ (by omega), hw2]; exact new_at (by simp)
  obtain ⟨a, n, c, hv, hn⟩ := hr.lt
  obtain ⟨a', c', hv'⟩ := ownB_slice hown
  rw [← hn] at hv'
  have HR := Lib.hid hr
  have HO := Lib.hid hown
  have HF := Lib.hid hfar
  have HB := Lib.hid hb
  have HB2 := Lib.hid hb2
  rw [hw2] at hrun
  have HRN := Lib.hid hrun
  clear hr hw2 hown hfar hb hb2 hrun
  have hv2 : bv = .slice a n c := hv
  clear hn hv
  subst hv2
  subst hv'
  refine ⟨.slice a' n c', ((((w'.setCell ⟨w.heap.size, 2, none⟩ (.slice a' n c')).setCell ⟨w.heap.size + 1, 0, none⟩ (.string frm)).setCell ⟨w.heap.size + 1, 1, none⟩ (.string to)).setCell ⟨w.heap.size + 1, 2, none⟩ (.slice a' n c')), ?_, ?_, ?_, ?_⟩
  · have hown := HO.out
    have hfar := HF.out
    refine row_stays hown fun b hb => ?_
    have := hfar b hb
    rw [set_other (by show b ≠ w.heap.size + 1; omega), set_other (by show b ≠ w.heap.size + 1; omega), set_other (by show b ≠ w.heap.size + 1; omega), set_other (by show b ≠ w.heap.size; omega)]
  · intro b hb
    have := HF.out b hb
    omega
  · have hb := HB2.out.trans (HB.out.mono (by omega))
    exact (((hb.setCell (p := ⟨_, _, _⟩) (by simp) _).setCell (p := ⟨_, _, _⟩) (by simp) _).setCell (p := ⟨_, _, _⟩) (by simp) _).setCell (p := ⟨_, _, _⟩) (by simp) _
  have c0 := cell_of_row w' _ 0 _ _ _ h1
  have c1 := cell_of_row w' _ 1 _ _ _ h1
  have c2 := cell_of_row w' _ 2 _ _ _ h1
  have d0 := cell_of_row w' _ 0 _ _ _ h2
  have d1 := cell_of_row w' _ 1 _ _ _ h2
  have d2 := cell_of_row w' _ 2 _ _ _ h2
  have f1 := frozen_blk h1 2
  have g0 := frozen_blk h2 0
  have g1 := frozen_blk h2 1
  have g2 := frozen_blk h2 2
  simp at c0 c1 c2 d0 d1 d2
  unfold Pk.val
  go_enter Try.func62, Try.ntmps62
  go_wp2_with (at_builtin; refine wpList_append_run rfl _ _ 33 rfl _ _ rfl rfl HRN.out ?_)
  exact bodyPost_ret (v := .agg #[.string frm, .string to, .slice a' n c']) (by simp [results, Try.results62, go_sem, d0, d1, d2]) rfl ⟨rfl, rfl⟩
theorem rown_any (p : Pk) (w : World) (hr : rdB w p.bv p.bs) : Calls Try.prog 62 #[p.val] w fun e w' => ∃ v', e = .returned (Pk.val { p with bv := v' }) ∧ ownB w' v' p.bs ∧ (∀ b, v'.ownBlock = some b → w.heap.size ≤ b) ∧ Below w.heap.size w w' := by
  obtain ⟨v', w', h1, h2, h3, h4⟩ := rown_run p w hr
  refine h4.mono ?_
  rintro e w'' ⟨rfl, rfl⟩
  exact ⟨v', rfl, h1, h2, h3⟩
end Go.Proofs.Ytiindnmelegkgaa
end
/- The reference's readers. -/
section
namespace Go.Proofs.Ytiindnmelegkgaa
open Go.RowKit
set_option linter.unusedSimpArgs false
set_option linter.unusedVariables false

theorem el_at {α : Type} {w : World} {g cap e s : Nat} {l : List α} {f : α → List Value} {m : Nat} (hf : ∀ x, (f x).length = s) (h : w.ownsRow 0 e s (.slice (some ⟨g, 0, none⟩) m cap) m (l.flatMap f)) {k : Nat} {x : α} (hk : l[k]? = some x) (hm : l.length = m) :
    ∀ i, i < s → w.cell? ⟨g, k * s + i, none⟩ = (f x)[i]? := by
  intro i hi
  have hlt : k < l.length := (List.getElem?_eq_some_iff.1 hk).1
  have : k * s + i < m * s := by
    have h1 : (k + 1) * s ≤ m * s := Nat.mul_le_mul_right _ (by omega)
    rw [Nat.succ_mul] at h1
    omega
  rw [h.cellAt _ this, flat_get f s hf l k i hi, hk]
  rfl

def fliesB (l : List RFl) (id : Int) : Bool := decide (0 ≤ id) && (match l[id.toNat]? with | some x => !x.gone | none => false)

theorem slice_box {w : World} {base : Nat} {e : TypeId} {size : Nat} {v : Value} {n : Nat} {xs : List Value} (h : w.ownsRow base e size v n xs) (hn : 0 < n) : ∃ g c, v = .slice (some ⟨g, 0, none⟩) n c := by
  rcases h.2 with ⟨h, h0⟩ | ⟨g, cap, cur, h, _⟩
  · omega
  · exact ⟨g, cap, h⟩

set_option maxRecDepth 100000 in
theorem flies_any (N : RNet) (w : World) (R : ROk w N) (S : RSmall N) (id : Int) :
    Calls Try.prog 26 #[N.val, .int .i64 id] w fun e w' => e = .returned (.bool (fliesB N.all id)) ∧ Below w.heap.size w w' := by
  have hbb : Below w.heap.size w (w.alloc (.cells #[N.va, N.vh, N.ve, N.vb] 64)) := (Below.refl _ _).alloc (Nat.le_refl _) _
  have R1 := R.below hbb
  have HB := Lib.hid hbb
  obtain ⟨aa, ac, hva⟩ := row_slice R.a
  obtain ⟨n, hn⟩ : ∃ n, N.all.length = n := ⟨_, rfl⟩
  have hnb := S.all
  unfold RNet.val fliesB
  by_cases h0 : 0 ≤ id
  · obtain ⟨k, rfl⟩ : ∃ k : Nat, id = k := ⟨id.toNat, by omega⟩
    have h0' : decide (0 ≤ (k : Int)) = true := by simp
    rw [h0', Bool.true_and, Int.toNat_natCast]
    by_cases hk : k < n
    · obtain ⟨x, hx⟩ : ∃ x, N.all[k]? = some x := ⟨N.all[k]'(by omega), List.getElem?_eq_getElem _⟩
      obtain ⟨g, c, hv⟩ := slice_box R.a (by omega)
      have ra := R1.a
      rw [hv, hn] at ra
      have m2 := el_at (f := RFl.cells) (fun _ => rfl) ra hx hn 4 (by decide)
      simp only [RFl.cells, List.getElem?_cons_succ, List.getElem?_cons_zero] at m2
      rw [hv, hn] at HB ⊢
      rw [hx]
      have hk' : (k : Int) < n := by omega
      cases hg : x.gone
      all_goals
        rw [hg] at m2
        have HH := Lib.hid hn
        have HG := Lib.hid hg
        clear R R1 ra hva hv hn hbb hg
        go_enter Try.func26, Try.ntmps26
        go_wp2
        go_ret
        exact ⟨by rw [HG.out]; rfl, HB.out⟩
    · have hx : N.all[k]? = none := List.getElem?_eq_none (by omega)
      rw [hva, hn] at HB ⊢
      rw [hx]
      clear R R1 hva hn hbb hx
      go_enter Try.func26, Try.ntmps26
      go_wp2
      go_ret
      exact ⟨rfl, HB.out⟩
  · have h0' : decide (0 ≤ id) = false := by simp; omega
    rw [h0', Bool.false_and]
    rw [hva, hn] at HB ⊢
    clear R R1 hva hn hbb
    go_enter Try.func26, Try.ntmps26
    go_wp2
    go_ret
    exact ⟨rfl, HB.out⟩

def countL (l : List RFl) : Nat := (l.filter fun x => !x.gone).length
theorem countL_le (l : List RFl) : countL l ≤ l.length := List.length_filter_le _ _
theorem countL_snoc (l : List RFl) (k : Nat) (x : RFl) (h : l[k]? = some x) : countL (l.take (k + 1)) = countL (l.take k) + if x.gone then 0 else 1 := by
  obtain ⟨hk, rfl⟩ := List.getElem?_eq_some_iff.1 h
  rw [List.take_succ_eq_append_getElem hk]
  unfold countL
  rw [List.filter_append, List.length_append]
  cases hg : l[k].gone <;> simp [List.filter_cons, hg]

set_option maxHeartbeats 1000000 in
set_option maxRecDepth 100000 in
theorem count_any (N : RNet) (w : World) (R : ROk w N) (S : RSmall N) :
    Calls Try.prog 30 #[N.val] w fun e w' => e = .returned (.int .i64 (countL N.all : Nat)) ∧ Below w.heap.size w w' := by
  have hbb : Below w.heap.size w (w.alloc (.cells #[N.va, N.vh, N.ve, N.vb] 64)) := (Below.refl _ _).alloc (Nat.le_refl _) _
  have R1 := R.below hbb
  obtain ⟨aa, ac, hva⟩ := row_slice R.a
  obtain ⟨n, hn⟩ : ∃ n, N.all.length = n := ⟨_, rfl⟩
  have hnb := S.all
  have HN := Lib.hid hn
  rw [hn] at hva hnb
  unfold RNet.val
  rw [hva] at hbb R1 ⊢
  have HB := Lib.hid hbb
  have HR := Lib.hid R.a
  have HV := Lib.hid hva
  have HR1 := Lib.hid R1.a
  clear hbb R R1 hva hn S
  go_enter Try.func30, Try.ntmps30
  go_wp2
  go_loop [3, 4] (fun c i => ∃ k : Nat, k ≤ n ∧ i = .int .i64 k ∧ c = .int .i64 (countL (N.all.take k) : Nat)) (fun _ i => n - (intOf i).toNat)
  case atStart => exact ⟨0, Nat.zero_le _, rfl, rfl⟩
  case round =>
    obtain ⟨k, hk, rfl, rfl⟩ := hrel
    have hcl : countL (N.all.take k) ≤ k := Nat.le_trans (countL_le _) (by rw [List.length_take]; omega)
    by_cases hlt : k < n
    · obtain ⟨x, hx⟩ : ∃ x, N.all[k]? = some x := ⟨N.all[k]'(by rw [HN.out]; omega), List.getElem?_eq_getElem _⟩
      have hcs := Lib.hid (countL_snoc _ _ _ hx)
      have ra := HR1.out
      have hv := HV.out
      obtain ⟨g, rfl⟩ : ∃ g, aa = some ⟨g, 0, none⟩ := by
        obtain ⟨g, c, h⟩ := slice_box HR.out (by rw [HN.out]; omega)
        rw [hv] at h
        cases h
        exact ⟨g, rfl⟩
      rw [hv, HN.out] at ra
      have m2 := el_at (f := RFl.cells) (fun _ => rfl) ra hx HN.out 4 (by decide)
      simp only [RFl.cells, List.getElem?_cons_succ, List.getElem?_cons_zero] at m2
      have hcl' : (countL (N.all.take k) : Int) ≤ 1000000 := by omega
      cases hg : x.gone
      all_goals
        rw [hg] at m2 hcs
        clear ra hv hx hg
        go_wp2
        go_round
        case rel => exact ⟨k + 1, by omega, by simp, by rw [hcs.out]; simp⟩
        case measure => simp [intOf]; omega
    · obtain rfl : k = n := by omega
      go_wp2
      go_ret
      have hall : N.all.take k = N.all := List.take_of_length_le (by rw [HN.out]; exact Nat.le_refl _)
      exact ⟨by rw [hall]; rfl, HB.out⟩
end Go.Proofs.Ytiindnmelegkgaa
end

/- The leaf functions of the network package. -/
import Derived.Test.YtiindnmelegkgaaRows
import Derived.WalkKit
import Derived.WalkSpells
import Derived.WalkLawsBesides
import Derived.Lib.Hide
import Derived.Deep.QuietTactic
import Derived.Deep.DeepAppendWide
import Derived.Deep.AppendLies
import Derived.BigQuiet
import Derived.Handy
import Derived.Lib.SliceRun
import Derived.Lib.Walk
import Derived.Deep.Heap
import Derived.Test.YtiindnmelegkgaaChain
namespace Go.Proofs.Ytiindnmelegkgaa
open Go.RowKit
set_option linter.unusedSimpArgs false

theorem ret_int {k : IntKind} {a b : Int} (h : a = b) : Ending.returned (.int k a) = .returned (.int k b) := by rw [h]

/-- A host name of 1 to 32 bytes. -/
def hostB (s : ByteArray) : Bool := decide (1 ≤ s.size) && decide (s.size ≤ 32)

theorem host_any (s : ByteArray) (w : World) : Calls Try.prog 40 #[.string s] w fun e w' => e = .returned (.bool (hostB s)) ∧ w = w' := by
  unfold hostB
  by_cases h1 : 1 ≤ s.size
  · by_cases h2 : s.size ≤ 32
    · go_enter Try.func40, Try.ntmps40
      go_wp2
      go_ret
      refine ⟨?_, rfl⟩
      have e : (s.size : Int) ≤ 32 := by omega
      simp [h1, h2, e]
    · go_enter Try.func40, Try.ntmps40
      go_wp2
      go_ret
      refine ⟨?_, rfl⟩
      have e : ¬ (s.size : Int) ≤ 32 := by omega
      simp [h1, h2, e]
  · go_enter Try.func40, Try.ntmps40
    go_wp2
    go_ret
    simp

/-- A packet: its bytes as a value, and as numbers. -/
structure Pk where
  frm : ByteArray
  to : ByteArray
  bv : Value
  bs : List Int
def Pk.cells (p : Pk) : List Value := [.string p.frm, .string p.to, p.bv]
def Pk.val (p : Pk) : Value := .agg #[.string p.frm, .string p.to, p.bv]

/-- The bytes can be read. -/
def rdB (w : World) (v : Value) (bs : List Int) : Prop :=
  bs.length ≤ 1099511627776 ∧ ((v = .slice none 0 0 ∧ bs = []) ∨ (∃ b off c, v = .slice (some ⟨b, off, none⟩) bs.length c ∧ b < w.heap.size ∧ ∀ j u, (bs.map (Value.int .u8))[j]? = some u → w.cell? ⟨b, off + j, none⟩ = some u) ∨ (bs = [] ∧ ∃ a c, v = .slice (some a) 0 c))
/-- The bytes lie in a row of their own. -/
def ownB (w : World) (v : Value) (bs : List Int) : Prop := w.ownsRow 0 5 1 v bs.length (bs.map (Value.int .u8))

def validB (p : Pk) : Bool := hostB p.frm && hostB p.to && decide (p.bs.length ≤ 65536)

theorem valid_any (p : Pk) (w : World) (hr : rdB w p.bv p.bs) : ∃ w', Below w.heap.size w w' ∧ Calls Try.prog 34 #[p.val] w fun e w'' => e = .returned (.bool (validB p)) ∧ w' = w'' := by
  refine ⟨w.alloc (.cells #[.string p.frm, .string p.to, p.bv] 35), (Below.refl _ _).alloc (Nat.le_refl _) _, ?_⟩
  obtain ⟨a, n, c, hv, hn⟩ : ∃ a n c, p.bv = .slice a n c ∧ n = p.bs.length := by
    rcases hr.2 with ⟨h, h0⟩ | ⟨b, off, c, h, _⟩ | ⟨h0, a, c, h⟩
    · exact ⟨_, _, _, h, by simp [h0]⟩
    · exact ⟨_, _, _, h, rfl⟩
    · exact ⟨_, _, _, h, by simp [h0]⟩
  have hl := hr.1
  clear hr
  unfold Pk.val validB
  rw [hv]
  generalize p.bs.length = L at hn hl ⊢
  subst hn
  cases h1 : hostB p.frm
  · go_enter Try.func34, Try.ntmps34
    go_wp2_with fail
    refine (host_any _ _).mono ?_
    rintro e w1 ⟨rfl, rfl⟩
    rw [h1]
    go_wp2
    go_ret
    simp
  · cases h2 : hostB p.to
    · go_enter Try.func34, Try.ntmps34
      go_wp2_with fail
      refine (host_any _ _).mono ?_
      rintro e w1 ⟨rfl, rfl⟩
      rw [h1]
      go_wp2_with fail
      refine (host_any _ _).mono ?_
      rintro e w1 ⟨rfl, rfl⟩
      rw [h2]
      go_wp2
      go_ret
      simp
    · go_enter Try.func34, Try.ntmps34
      go_wp2_with fail
      refine (host_any _ _).mono ?_
      rintro e w1 ⟨rfl, rfl⟩
      rw [h1]
      go_wp2_with fail
      refine (host_any _ _).mono ?_
      rintro e w1 ⟨rfl, rfl⟩
      rw [h2]
      go_wp2
      go_ret
      refine ⟨?_, rfl⟩
      show Ending.returned (.bool (decide ((n : Int) ≤ 65536))) = _
      have e : ((n : Int) ≤ 65536) = (n ≤ 65536) := by rw [eq_iff_iff]; omega
      simp [e]

theorem info5 : (Try.prog.info? 5).map (fun i => (i.zero, i.size, i.bytes)) = some (some (.int .u8 0), 1, 1) := by kernel_rfl
theorem info35 : (Try.prog.info? 35).map (fun i => (i.zero, i.size, i.bytes)) = some (some (.agg #[.string { data := #[] }, .string { data := #[] }, .slice none 0 0]), 3, 56) := by kernel_rfl
theorem info59 : (Try.prog.info? 59).map (fun i => (i.zero, i.size, i.bytes)) = some (some (.agg #[.int .i64 0, .int .i64 0, .int .i64 0]), 3, 24) := by kernel_rfl
theorem info81 : (Try.prog.info? 81).map (fun i => (i.zero, i.size, i.bytes)) = some (some (.agg #[.string { data := #[] }, .string { data := #[] }, .slice none 0 0, .int .i64 0, .int .i64 0]), 5, 72) := by kernel_rfl
theorem eqNil33 (w : World) (a : Option Addr) (n c n' c' : Nat) : (binOp .eql 33 (.slice a n c) (.slice none n' c')).run Try.prog w = .ok (.bool a.isNone) w := Lib.run_eql_slice_nil w 33 5 a n c n' c' (by kernel_rfl)
theorem u33 : Try.prog.underlying 33 = some (.slice 5) := by kernel_rfl
theorem new_at {w : World} {o : Obj} {k : Nat} (h : k = w.heap.size) : (w.alloc o).heap[k]? = some o := by subst h; exact heap_alloc_new w o
theorem old_at {w : World} {o : Obj} {k : Nat} (h : k < w.heap.size) : (w.alloc o).heap[k]? = w.heap[k]? := Deep.blk_alloc_lt w o k h
theorem u24 : Try.prog.underlying 24 = some (.slice 81) := by kernel_rfl
theorem u25 : Try.prog.underlying 25 = some (.slice 35) := by kernel_rfl
theorem u26 : Try.prog.underlying 26 = some (.slice 59) := by kernel_rfl

theorem ownB_rd {w : World} {v : Value} {bs : List Int} (h : ownB w v bs) (hl : bs.length ≤ 1099511627776) : rdB w v bs := by
  refine ⟨hl, ?_⟩
  rcases h.2 with ⟨hv, h0⟩ | ⟨g, cap, cur, hv, _, hg, hn, hc, hs, ht⟩
  · exact .inl ⟨hv, List.length_eq_zero_iff.1 h0⟩
  · refine .inr (.inl ⟨g, 0, cap, hv, (Array.getElem?_eq_some_iff.1 hg).1, fun j u hu => ?_⟩)
    rw [cell_of_row w g (0 + j) cur 5 (0, 0) hg, Nat.zero_add]
    rw [← ht, List.getElem?_take] at hu
    split at hu
    · simpa using hu
    · cases hu

/-- append, its run known. -/
theorem wpList_append_run {P : Program} {w : World} {ops : Array Oper} {rest : List Oper} {o : Oper} {a : Act} {Q : Exit → Act → World → Prop} (hgd : o.guard = none) (s x : Operand) (t : TypeId)
    (ho : o.op = .call { callee := .builtin .append, args := #[s, x], argTypes := #[t, t] }) (v u : Value) (hs : a.eval s = v) (hx : a.eval x = u) {v' : Value} {w' : World}
    (hr : (Builtin.append_ #[t, t] o.type #[v, u]).run P w = .ok v' w') (h : wpList P ops Q rest (a.put o.dst v') w') : wpList P ops Q (o :: rest) a w :=
  wpList_plain hgd fun _ hK => by
    unfold Oper.wp execOp
    simp only [ho, resolve, invoke, builtin, Sem.run_bind, Sem.run_pure, Result.andThen_ok, List.map_toArray, List.map_cons, List.map_nil, hs, hx, hr]
    exact hK _ _ h

set_option maxRecDepth 100000 in
theorem clone_any (v : Value) (bs : List Int) (w : World) (hr : rdB w v bs) : ∃ v' w', ownB w' v' bs ∧ (∀ b, v'.ownBlock = some b → w.heap.size ≤ b) ∧ Below w.heap.size w w' ∧ Calls Try.prog 56 #[v] w fun e w'' => e = .returned v' ∧ w' = w'' := by
  obtain ⟨hl, hr⟩ := hr
  have hr' : (v = .slice none 0 0 ∧ bs = []) ∨ ∃ (ad : Addr) (c : Nat), v = .slice (some ad) bs.length c ∧ ∀ j u, (bs.map (Value.int .u8))[j]? = some u → w.cell? (ad.add j) = some u := by
    rcases hr with h | ⟨b, off, c, h, _, hc⟩ | ⟨h0, a, c, h⟩
    · exact .inl h
    · exact .inr ⟨_, c, h, fun j u hu => by rw [Addr.add_lit]; exact hc j u hu⟩
    · subst h0; exact .inr ⟨a, c, h, by simp⟩
  clear hr
  rcases hr' with ⟨rfl, rfl⟩ | ⟨ad, c, rfl, hc⟩
  · refine ⟨.slice none 0 0, w, World.ownsRow_nil _ _ _ _, by simp [Value.ownBlock], Below.refl _ _, ?_⟩
    have q33 := eqNil33
    go_enter Try.func56, Try.ntmps56
    go_wp2
    go_ret
    exact ⟨rfl, rfl⟩
  · obtain ⟨i0, hi, hz0, hz1, hz2⟩ := info_parts info5
    have h0 : (w.alloc (.cells #[] 5)).ownsRow w.heap.size 5 1 (.slice (some ⟨w.heap.size, 0, none⟩) 0 0) 0 [] := World.ownsRow_made w #[] 0 (Nat.le_refl _) (Nat.zero_le _) (by simp)
    obtain ⟨v', w', hrun, hown, hgrow, hnil⟩ := run_append_own_wide (P := Try.prog) (w.alloc (.cells #[] 5)) w.heap.size 33 33 5 i0 (.int .u8 0) 1 1 u33 hi hz0 hz1 hz2 rfl (by decide) _ 0 [] h0 ad bs.length c (bs.map (Value.int .u8)) (by simp)
      (fun j u hu => by
        exact Lib.cell?_alloc_some _ (hc j u hu)) (by simp [Value.oneCell']) (by simp [maxLen]; omega) (by omega) (by simp)
    have hv' : ∀ b', v'.ownBlock = some b' → w.heap.size ≤ b' := fun b' e => by
      rcases hown.2 with ⟨rfl, _⟩ | ⟨g, cap, cur, rfl, hg, _⟩
      · simp [Value.ownBlock] at e
      · simp [Value.ownBlock] at e; omega
    refine ⟨v', w', ⟨by simp, ?_⟩, hv', ((Below.refl _ w).alloc (Nat.le_refl _) _).grown hgrow (by simp) (by intro k hk; simp [Value.ownBlock] at hk; omega), ?_⟩
    · rcases hown.2 with ⟨rfl, h2⟩ | ⟨g, cap, cur, rfl, hg, h3, h4, h5, h6, h7⟩
      · exact .inl ⟨rfl, by simpa using h2⟩
      · refine .inr ⟨g, cap, cur, by simp, Nat.zero_le _, h3, by simpa using h4, h5, h6, by simpa using h7⟩
    · clear hown hgrow hnil h0 hc hv'
      have q33 := eqNil33
      go_enter Try.func56, Try.ntmps56
      go_wp2_with (at_builtin; refine wpList_append_run rfl _ _ 33 rfl _ _ rfl rfl hrun ?_)
      go_ret
      exact ⟨rfl, rfl⟩

theorem rdB.lt {w : World} {v : Value} {bs : List Int} (h : rdB w v bs) : ∃ a n c, v = .slice a n c ∧ n = bs.length := by
  rcases h.2 with ⟨h, h0⟩ | ⟨b, off, c, h, _⟩ | ⟨h0, a, c, h⟩
  · exact ⟨_, _, _, h, by simp [h0]⟩
  · exact ⟨_, _, _, h, rfl⟩
  · exact ⟨_, _, _, h, by simp [h0]⟩
theorem rdB.below {w w' : World} {v : Value} {bs : List Int} (h : rdB w v bs) (hb : Below w.heap.size w w') : rdB w' v bs := by
  refine ⟨h.1, ?_⟩
  rcases h.2 with h | ⟨b, off, c, h, hlt, hc⟩ | h
  · exact .inl h
  · exact .inr (.inl ⟨b, off, c, h, Nat.lt_of_lt_of_le hlt hb.size, fun j u hu => by rw [World.cell?_of_block (w := w) (hb.block _ hlt)]; exact hc j u hu⟩)
  · exact .inr (.inr h)
theorem ownB_slice {w : World} {v : Value} {bs : List Int} (h : ownB w v bs) : ∃ a c, v = .slice a bs.length c := by
  rcases h.2 with ⟨h, h0⟩ | ⟨g, cap, cur, h, _⟩
  · exact ⟨none, 0, by rw [h, h0]⟩
  · exact ⟨_, _, h⟩

/-- A row stays where its block stays. -/
theorem row_stays {w w' : World} {base : Nat} {e : TypeId} {size : Nat} {v : Value} {n : Nat} {xs : List Value} (h : w.ownsRow base e size v n xs) (he : ∀ b, v.ownBlock = some b → w'.heap[b]? = w.heap[b]?) : w'.ownsRow base e size v n xs := by
  refine ⟨h.1, ?_⟩
  rcases h.2 with h | ⟨g, cap, cur, hv, h1, h2, h3⟩
  · exact .inl h
  · exact .inr ⟨g, cap, cur, hv, h1, (he g (by rw [hv]; rfl)).trans h2, h3⟩
theorem set_other {w : World} {p : Addr} {v : Value} {b : Nat} (h : b ≠ p.block) : (w.setCell p v).heap[b]? = w.heap[b]? := Deep.blk_setCell_other _ _ _ _ h
theorem frozen_blk {w : World} {g : Nat} {cs : Array Value} {t : TypeId} (h : w.heap[g]? = some (.cells cs t (0, 0))) (i : Nat) : w.frozen? ⟨g, i, none⟩ = false := by
  simp [World.frozen?, h]

theorem own_any (p : Pk) (w : World) (hr : rdB w p.bv p.bs) : ∃ v' w', ownB w' v' p.bs ∧ (∀ b, v'.ownBlock = some b → w.heap.size ≤ b) ∧ Below w.heap.size w w' ∧
    Calls Try.prog 35 #[p.val] w fun e w'' => e = .returned (Pk.val { p with bv := v' }) ∧ w' = w'' := by
  obtain ⟨frm, to, bv, bs⟩ := p
  obtain ⟨w2, hw2⟩ : ∃ w2, w2 = (w.alloc (.cells #[.string frm, .string to, bv] 35)).alloc (.cells #[.string { data := #[] }, .string { data := #[] }, .slice none 0 0] 35) := ⟨_, rfl⟩
  have hb2 : Below w.heap.size w w2 := by rw [hw2]; exact ((Below.refl _ _).alloc (Nat.le_refl _) _).alloc (by simp) _
  obtain ⟨v', w', hown, hfar, hb, hcall⟩ := clone_any bv bs w2 (hr.below hb2)
  have hsz : w2.heap.size = w.heap.size + 2 := by rw [hw2]; simp
  have h1 : w'.heap[w.heap.size]? = some (.cells #[.string frm, .string to, bv] 35 (0, 0)) := by
    rw [hb.block _ (by omega), hw2, old_at (by simp)]; exact new_at rfl
  have h2 : w'.heap[w.heap.size + 1]? = some (.cells #[.string { data := #[] }, .string { data := #[] }, .slice none 0 0] 35 (0, 0)) := by
    rw [hb.block _ (by omega), hw2]; exact new_at (by simp)
  obtain ⟨a, n, c, hv, hn⟩ := hr.lt
  obtain ⟨a', c', hv'⟩ := ownB_slice hown
  rw [← hn] at hv'
  have HR := Lib.hid hr
  have HW := Lib.hid hw2
  have HO := Lib.hid hown
  have HF := Lib.hid hfar
  have HB := Lib.hid hb
  have HB2 := Lib.hid hb2
  clear hr hw2 hown hfar hb hb2
  have hv2 : bv = .slice a n c := hv
  clear hn hv
  subst hv2
  subst hv'
  refine ⟨.slice a' n c', (((w'.setCell ⟨w.heap.size, 2, none⟩ (.slice a' n c')).setCell ⟨w.heap.size + 1, 0, none⟩ (.string frm)).setCell ⟨w.heap.size + 1, 1, none⟩ (.string to)).setCell ⟨w.heap.size + 1, 2, none⟩ (.slice a' n c'), ?_, ?_, ?_, ?_⟩
  rotate_left 3
  · unfold Pk.val
    go_enter Try.func35, Try.ntmps35
    go_wp2_with fail
    rw [← HW.out]
    refine hcall.mono ?_
    rintro e w1 ⟨rfl, rfl⟩
    have c0 := cell_of_row w' _ 0 _ _ _ h1
    have c1 := cell_of_row w' _ 1 _ _ _ h1
    have c2 := cell_of_row w' _ 2 _ _ _ h1
    have d0 := cell_of_row w' _ 0 _ _ _ h2
    have d1 := cell_of_row w' _ 1 _ _ _ h2
    have d2 := cell_of_row w' _ 2 _ _ _ h2
    have f1 := frozen_blk h1 2
    have g0 := frozen_blk h2 0
    have g1 := frozen_blk h2 1
    have g2 := frozen_blk h2 2
    simp at c0 c1 c2 d0 d1 d2
    go_wp2
    exact bodyPost_ret (v := .agg #[.string frm, .string to, .slice a' n c']) (by simp [results, Try.results35, go_sem, d0, d1, d2]) rfl ⟨rfl, rfl⟩
  · have hown := HO.out
    have hfar := HF.out
    refine row_stays hown fun b hb => ?_
    have := hfar b hb
    rw [set_other (by show b ≠ w.heap.size + 1; omega), set_other (by show b ≠ w.heap.size + 1; omega), set_other (by show b ≠ w.heap.size + 1; omega), set_other (by show b ≠ w.heap.size; omega)]
  · intro b hb
    have := HF.out b hb
    omega
  · have hb := HB2.out.trans (HB.out.mono (by omega))
    exact (((hb.setCell (p := ⟨_, _, _⟩) (by simp) _).setCell (p := ⟨_, _, _⟩) (by simp) _).setCell (p := ⟨_, _, _⟩) (by simp) _).setCell (p := ⟨_, _, _⟩) (by simp) _
end Go.Proofs.Ytiindnmelegkgaa

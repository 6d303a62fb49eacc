/- pair, Block. -/
import Derived.Test.YtiindnmelegkgaaGen
namespace Go.Proofs.Ytiindnmelegkgaa
open Go.RowKit
set_option linter.unusedSimpArgs false
set_option linter.unusedVariables false

theorem pair_ok (p : Nat) (f t : ByteArray) (hf : hostB f = true) (ht : hostB t = true) (w : World) : Calls Try.prog 41 #[.pointer (some ⟨p, 0, none⟩), .string f, .string t] w fun e w' => e = .returned (.int .i64 0) ∧ w = w' := by
  go_enter Try.func41, Try.ntmps41
  go_wp2_with fail
  refine (host_any _ _).mono ?_
  rintro e w1 ⟨rfl, rfl⟩
  rw [hf]
  go_wp2_with fail
  refine (host_any _ _).mono ?_
  rintro e w1 ⟨rfl, rfl⟩
  rw [ht]
  go_wp2
  go_ret
  exact ⟨rfl, rfl⟩
theorem pair_bad (p : Nat) (f t : ByteArray) (h : (hostB f && hostB t) = false) (w : World) : Calls Try.prog 41 #[.pointer (some ⟨p, 0, none⟩), .string f, .string t] w fun e w' => e = .returned (.int .i64 2) ∧ w = w' := by
  cases hf : hostB f
  · go_enter Try.func41, Try.ntmps41
    go_wp2_with fail
    refine (host_any _ _).mono ?_
    rintro e w1 ⟨rfl, rfl⟩
    rw [hf]
    go_wp2
    go_ret
    exact ⟨rfl, rfl⟩
  · have ht : hostB t = false := by simpa [hf] using h
    go_enter Try.func41, Try.ntmps41
    go_wp2_with fail
    refine (host_any _ _).mono ?_
    rintro e w1 ⟨rfl, rfl⟩
    rw [hf]
    go_wp2_with fail
    refine (host_any _ _).mono ?_
    rintro e w1 ⟨rfl, rfl⟩
    rw [ht]
    go_wp2
    go_ret
    exact ⟨rfl, rfl⟩
theorem pair_nil (f t : ByteArray) (w : World) : Calls Try.prog 41 #[.pointer none, .string f, .string t] w fun e w' => e = .returned (.int .i64 1) ∧ w = w' := by
  go_enter Try.func41, Try.ntmps41
  go_wp2
  go_ret
  exact ⟨rfl, rfl⟩

/-- The map is changed. -/
theorem Rep.mapped {ρ : Nat → Nat} {w w' : World} {p : Nat} {N : Net} (R : Rep ρ w p N) (os : w'.os = w.os) (tape : w'.tape = w.tape) (out : w'.output = w.output) (hs : w.heap.size ≤ w'.heap.size)
    (vm : Value) (bl : ByteArray → ByteArray → Bool) (cnt : Nat)
    (hp : w'.heap[p]? = some (.cells #[N.vf, N.vh, N.ve, vm, .int .i64 N.next] 29 (0, 0))) (hm : mapOk w' vm bl cnt)
    (hblk : ∀ b, b < w.heap.size → b ≠ p → ρ b ≠ 5 → w'.heap[b]? = w.heap[b]?)
    (hg : ∀ b, mapBlock vm = some b → (ρ b = 5 ∨ w.heap.size ≤ b) ∧ b < w'.heap.size) :
    ∃ ρ', Rep ρ' w' p { N with bl := bl, cnt := cnt, vm := vm } ∧ Step ρ ρ' w w' := by
  have stay : ∀ b, ρ b ≠ 0 → ρ b ≠ 1 → ρ b ≠ 5 → w'.heap[b]? = w.heap[b]? := fun b h0 h1 h5 => hblk b (R.lt h0) (fun e => h1 (by rw [e, R.rp])) h5
  refine ⟨fun b => if b < w.heap.size then ρ b else if some b = mapBlock vm then 5 else 0, ?_, ⟨os, tape, out, hs, fun b hb h0 => ?_, fun b hb h0 => (if_pos hb).trans h0⟩⟩
  · have old : ∀ b, ρ b ≠ 0 → (if b < w.heap.size then ρ b else if some b = mapBlock vm then 5 else 0) = ρ b := fun b h0 => if_pos (R.lt h0)
    constructor
    · exact hp
    · exact row_stays R.f fun b hb => stay b (by rw [R.rf b hb]; decide) (by rw [R.rf b hb]; decide) (by rw [R.rf b hb]; decide)
    · exact row_stays R.h fun b hb => stay b (by rw [R.rh b hb]; decide) (by rw [R.rh b hb]; decide) (by rw [R.rh b hb]; decide)
    · exact row_stays R.e fun b hb => stay b (by rw [R.re b hb]; decide) (by rw [R.re b hb]; decide) (by rw [R.re b hb]; decide)
    · exact hm
    · exact fun x hx => row_stays (R.fb x hx) fun b hb => stay b (by rw [R.rfb x hx b hb]; omega) (by rw [R.rfb x hx b hb]; omega) (by rw [R.rfb x hx b hb]; omega)
    · exact fun x hx => row_stays (R.hb x hx) fun b hb => stay b (by rw [R.rhb x hx b hb]; decide) (by rw [R.rhb x hx b hb]; decide) (by rw [R.rhb x hx b hb]; decide)
    · exact (old p (by rw [R.rp]; decide)).trans R.rp
    · exact fun b hb => (old b (by rw [R.rf b hb]; decide)).trans (R.rf b hb)
    · exact fun b hb => (old b (by rw [R.rh b hb]; decide)).trans (R.rh b hb)
    · exact fun b hb => (old b (by rw [R.re b hb]; decide)).trans (R.re b hb)
    · intro b hb
      obtain ⟨h1 | h1, h2⟩ := hg b hb
      · exact (old b (by rw [h1]; decide)).trans h1
      · show (if b < w.heap.size then _ else if some b = mapBlock vm then _ else _) = 5
        rw [if_neg (by omega), if_pos hb.symm]
    · exact fun x hx b hb => (old b (by rw [R.rfb x hx b hb]; omega)).trans (R.rfb x hx b hb)
    · exact fun x hx b hb => (old b (by rw [R.rhb x hx b hb]; decide)).trans (R.rhb x hx b hb)
    · intro b hb'
      show (if b < w.heap.size then _ else if some b = mapBlock vm then _ else _) = 0
      rw [if_neg (by omega), if_neg (fun e => by have := (hg b e.symm).2; omega)]
    · exact R.ids
    · exact R.idn
    · exact R.fok
    · exact R.hok
  · exact hblk b hb (fun e => by rw [e, R.rp] at h0; cases h0) (by omega)

/-- The map has been changed. -/
def Mapped (ρ : Nat → Nat) (w w' : World) (p : Nat) (N : Net) (bl : ByteArray → ByteArray → Bool) (cnt : Nat) : Prop :=
  ∃ ρ' vm', Rep ρ' w' p { N with bl := bl, cnt := cnt, vm := vm' } ∧ Step ρ ρ' w w'
theorem host_len {f : ByteArray} (h : hostB f = true) : f.size ≤ maxLen := by
  simp only [hostB, Bool.and_eq_true, decide_eq_true_eq] at h
  simp [maxLen]; omega

theorem eqlSome (bm : Nat) (w : World) : (binOp .eql 27 (.map (some bm)) (.map none)).run Try.prog w = .ok (.bool false) w := by kernel_rfl
theorem mk27 (w : World) : (Instr.makeMap 27 none).run Try.prog w = .ok (.map (some w.heap.size)) (w.alloc (.map #[] 0)) := rfl
theorem eqlNone (w : World) : (binOp .eql 27 (.map none) (.map none)).run Try.prog w = .ok (.bool true) w := by kernel_rfl

/-- A store into a map, its run known. -/
theorem wpList_mapUpdate_run {P : Program} {w : World} {ops : Array Oper} {rest : List Oper} {o : Oper} {a : Act} {Q : Exit → Act → World → Prop} (hg : o.guard = none) (m x v : Operand) (t : TypeId) (hop : o.op = Op.mapUpdate t m x v)
    (mv kv vv : Value) (hm : a.eval m = mv) (hx : a.eval x = kv) (hv : a.eval v = vv) {w' : World} (hrun : (Instr.mapUpdate t mv kv vv).run P w = .ok () w') (hK : wpList P ops Q rest (a.put o.dst undef) w') : wpList P ops Q (o :: rest) a w :=
  wpList_plain hg fun K' hK' => by
    unfold Oper.wp
    simp [execOp, hop, hm, hx, hv, hrun, Result.andThen]
    exact hK' _ _ hK

set_option maxRecDepth 100000 in
theorem block_ok {ρ : Nat → Nat} {w : World} {p : Nat} {N : Net} (R : Rep ρ w p N) (S : Small N) (f t : ByteArray) (hf : hostB f = true) (ht : hostB t = true) (bl' : ByteArray → ByteArray → Bool)
    (hbl : ∀ f' t', bl' f' t' = true ↔ (f' = f ∧ t' = t) ∨ N.bl f' t' = true) :
    Calls Try.prog 21 #[.pointer (some ⟨p, 0, none⟩), .string f, .string t] w fun e w' => e = .returned (.int .i64 0) ∧ Mapped ρ w w' p N bl' (N.cnt + 1) := by
  obtain ⟨c0, c1, c2, c3, c4, fr⟩ := net_cells R
  have hpl := R.lt (b := p) (by rw [R.rp]; decide)
  have f3 := fr 3
  have hcm : N.cnt < maxLen := by have := S.cnt; simp [maxLen]; omega
  rcases R.m with ⟨hv, hb0⟩ | ⟨mb, D, hv, h1, h2⟩
  · -- a new map
    obtain ⟨W1, hW1⟩ : ∃ W1, W1 = (w.alloc (.map #[] 0)).setCell ⟨p, 3, none⟩ (.map (some w.heap.size)) := ⟨_, rfl⟩
    have m0 : mapOk W1 (.map (some w.heap.size)) (fun _ _ => false) 0 := mapOk_stays (mapOk_made w) fun b hb => by
      obtain rfl : w.heap.size = b := by simpa [mapBlock] using hb
      rw [hW1]; exact set_other (by show w.heap.size ≠ p; omega)
    have m1 : mapOk W1 (.map (some w.heap.size)) N.bl N.cnt := by
      have e : N.bl = fun _ _ => false := by funext f t; exact hb0 f t
      rw [e]
      exact mapOk_mono m0 (Nat.zero_le _)
    obtain ⟨W2, run, m2, gr⟩ := mapOk_put (vm := .map none) m1 hcm f t (host_len hf) (host_len ht) bl' hbl
    have n1 : W1.heap[p]? = some (.cells #[N.vf, N.vh, N.ve, .map (some w.heap.size), .int .i64 N.next] 29 (0, 0)) := by
      rw [hW1]; exact set_at ((old_at hpl).trans R.net)
    have z1 : W1.heap.size = w.heap.size + 1 := by rw [hW1]; simp
    have z2 := gr.size
    obtain ⟨ρ', R', S'⟩ := R.mapped (w' := W2) (gr.os.trans (by rw [hW1]; rfl)) (gr.tape.trans (by rw [hW1]; rfl)) (gr.output.trans (by rw [hW1]; rfl)) (by omega) (.map (some w.heap.size)) bl' (N.cnt + 1)
      ((gr.block p (by omega) (fun e => by cases e; omega)).trans n1) m2 (fun b hb h1 h5 => by
        rw [gr.block b (by omega) (fun e => by cases e; omega), hW1, set_other h1, old_at hb]) (fun b hb => by
        obtain rfl : w.heap.size = b := by simpa [mapBlock] using hb
        exact ⟨.inr (Nat.le_refl _), by omega⟩)
    have END : Hid (Mapped ρ w W2 p N bl' (N.cnt + 1)) := Lib.hid ⟨ρ', _, R', S'⟩
    have d3 : W1.cell? ⟨p, 3, none⟩ = some (.map (some w.heap.size)) := by rw [cell_of_row _ _ _ _ _ _ n1]; rfl
    rw [hW1, setCell_alloc_comm _ _ _ _ hpl] at run d3
    rw [hv] at c3
    unfold keyV at run
    clear hcm hbl R' S' z1 z2 n1 gr m2 m1 m0 hW1 R S c0 c1 c2 c4 fr
    go_enter Try.func21, Try.ntmps21
    go_wp2_with fail
    refine (pair_ok _ _ _ hf ht _).mono ?_
    rintro e w1 ⟨rfl, rfl⟩
    have HRN := Lib.hid run
    clear run
    have q0 := eqlNone
    have q1 := eqlSome
    have q2 := mk27
    go_wp2_with (at_mapUpdate; refine wpList_mapUpdate_run rfl (.tmp 26) (.tmp 29) (.const (.bool true)) 27 rfl _ _ _ rfl rfl rfl HRN.out ?_)
    go_ret
    exact ⟨rfl, END.out⟩
  · obtain ⟨W2, run, m2, gr⟩ := mapOk_put (vm := .map none) (hv ▸ R.m) hcm f t (host_len hf) (host_len ht) bl' hbl
    have hrm := R.rm mb (by rw [hv]; rfl)
    have hml := R.lt (b := mb) (by rw [hrm]; decide)
    have z2 := gr.size
    obtain ⟨ρ', R', S'⟩ := R.mapped (w' := W2) gr.os gr.tape gr.output z2 (.map (some mb)) bl' (N.cnt + 1)
      ((gr.block p hpl (fun e => by cases e; rw [R.rp] at hrm; cases hrm)).trans (hv ▸ R.net)) m2 (fun b hb h1 h5 => gr.block b hb (fun e => by cases e; exact h5 hrm)) (fun b hb => by
        obtain rfl : mb = b := by simpa [mapBlock] using hb
        exact ⟨.inl hrm, by omega⟩)
    have END : Hid (Mapped ρ w W2 p N bl' (N.cnt + 1)) := Lib.hid ⟨ρ', _, R', S'⟩
    rw [hv] at c3
    unfold keyV at run
    clear hcm hbl hrm hml R' S' z2 gr m2 R S c0 c1 c2 c4 fr
    go_enter Try.func21, Try.ntmps21
    go_wp2_with fail
    refine (pair_ok _ _ _ hf ht _).mono ?_
    rintro e w1 ⟨rfl, rfl⟩
    have HRN := Lib.hid run
    clear run
    have q0 := eqlNone
    have q1 := eqlSome
    have q2 := mk27
    go_wp2_with (at_mapUpdate; refine wpList_mapUpdate_run rfl (.tmp 26) (.tmp 29) (.const (.bool true)) 27 rfl _ _ _ rfl rfl rfl HRN.out ?_)
    go_ret
    exact ⟨rfl, END.out⟩
end Go.Proofs.Ytiindnmelegkgaa

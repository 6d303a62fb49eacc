/- The reference's blocked, Genuine, noted. -/
import Derived.Test.YtiindnmelegkgaaR2
import Derived.ChangeKeysEq
namespace Go.Proofs.Ytiindnmelegkgaa
open Go.RowKit
set_option linter.unusedSimpArgs false
set_option linter.unusedVariables false

def pairB (a b c d : ByteArray) : Bool := (a.toList == c.toList) && (b.toList == d.toList)
theorem toList_inj {a b : ByteArray} (h : a.toList = b.toList) : a = b := by
  rw [ByteArray.toList_eq, ByteArray.toList_eq] at h
  obtain ⟨⟨x⟩⟩ := a
  obtain ⟨⟨y⟩⟩ := b
  simp at h
  rw [h]
theorem pairB_iff {a b c d : ByteArray} : pairB a b c d = true ↔ a = c ∧ b = d := by
  unfold pairB
  simp only [Bool.and_eq_true, beq_iff_eq]
  exact ⟨fun h => ⟨toList_inj h.1, toList_inj h.2⟩, fun h => ⟨by rw [h.1], by rw [h.2]⟩⟩
theorem info9 : (Try.prog.info? 9).isSome = true := by kernel_rfl
theorem equalIn82 (d : Nat) (w : World) (a b c e : ByteArray) : (Op.equalIn (d + 2) 82 (.agg #[.string a, .string b]) (.agg #[.string c, .string e])).run Try.prog w = .ok (pairB a b c e) w := by
  obtain ⟨i, hi⟩ := Option.isSome_iff_exists.1 info9
  rw [run_equalIn_array w (d + 1) _ _ u82 hi, cells9]
  have p : ∀ (xs : Array Value) (o : Nat) (w : World) (s : ByteArray), xs[o]? = some (.string s) → (part 9 xs o).run Try.prog w = .ok (.string s) w := by
    intro xs o w s h
    simp [part, run_underlying u9, sizeOf, typeInfo, hi, h, cells9, go_sem]
  have q1 := p #[.string a, .string b] 0 w a rfl
  have q2 := p #[.string a, .string b] 1 w b rfl
  have q3 := p #[.string c, .string e] 0 w c rfl
  have q4 := p #[.string c, .string e] 1 w e rfl
  have r1 := run_equalIn_string (P := Try.prog) w d 9 a c u9
  have r2 := run_equalIn_string (P := Try.prog) w d 9 b e u9
  unfold pairB
  cases h1 : (a.toList == c.toList) <;> rw [h1] at r1 <;> simp [Op.eqItems, show List.range 2 = [0, 1] from rfl, q1, q2, q3, q4, r1, r2, Result.andThen]
  cases h2 : (b.toList == e.toList) <;> simpa using h2
theorem eql82 (w : World) (a b c e : ByteArray) : (binOp .eql 82 (.agg #[.string a, .string b]) (.agg #[.string c, .string e])).run Try.prog w = .ok (.bool (pairB a b c e)) w := by
  rw [run_eql_struct, equalIn82 9998]
  rfl
theorem neq82 (w : World) (a b c e : ByteArray) : (binOp .neq 82 (.agg #[.string a, .string b]) (.agg #[.string c, .string e])).run Try.prog w = .ok (.bool (!pairB a b c e)) w := by
  rw [run_neq_struct, equalIn82 9998]
  rfl

def blockedB (l : List (ByteArray × ByteArray)) (f t : ByteArray) : Bool := l.any fun x => pairB x.1 x.2 f t
theorem blockedB_take (l : List (ByteArray × ByteArray)) (k : Nat) (x : ByteArray × ByteArray) (f t : ByteArray) (h : l[k]? = some x) : blockedB (l.take (k + 1)) f t = (blockedB (l.take k) f t || pairB x.1 x.2 f t) := by
  obtain ⟨hk, rfl⟩ := List.getElem?_eq_some_iff.1 h
  rw [List.take_succ_eq_append_getElem hk]
  unfold blockedB
  simp only [List.any_append, List.any_cons, List.any_nil, Bool.or_false]

set_option maxHeartbeats 1000000 in
set_option maxRecDepth 100000 in
theorem blocked_any (N : RNet) (w : World) (R : ROk w N) (S : RSmall N) (f t : ByteArray) :
    Calls Try.prog 67 #[N.val, .string f, .string t] w fun e w' => e = .returned (.bool (blockedB N.blk f t)) ∧ Below w.heap.size w w' := by
  have hbb : Below w.heap.size w (w.alloc (.cells #[N.va, N.vh, N.ve, N.vb] 64)) := (Below.refl _ _).alloc (Nat.le_refl _) _
  have R1 := R.below hbb
  obtain ⟨aa, ac, hvb⟩ := row_slice R.b
  obtain ⟨n, hn⟩ : ∃ n, N.blk.length = n := ⟨_, rfl⟩
  have hnb := S.blk
  have HN := Lib.hid hn
  rw [hn] at hvb hnb
  unfold RNet.val
  rw [hvb] at hbb R1 ⊢
  have HB := Lib.hid hbb
  have HR := Lib.hid R.b
  have HV := Lib.hid hvb
  have HR1 := Lib.hid R1.b
  have q82 := eql82
  clear hbb R R1 hvb hn S
  go_enter Try.func67, Try.ntmps67
  go_wp2
  go_loop [7] (fun i => ∃ k : Nat, k ≤ n ∧ i = .int .i64 k ∧ blockedB (N.blk.take k) f t = false) (fun i => n - (intOf i).toNat)
  case atStart => exact ⟨0, Nat.zero_le _, rfl, rfl⟩
  case round =>
    obtain ⟨k, hk, rfl, hno⟩ := hrel
    have HNO := Lib.hid hno
    clear hno
    by_cases hlt : k < n
    · obtain ⟨x, hx⟩ : ∃ x, N.blk[k]? = some x := ⟨N.blk[k]'(by rw [HN.out]; omega), List.getElem?_eq_getElem _⟩
      have hcs := Lib.hid (blockedB_take _ _ _ f t hx)
      have HX := Lib.hid hx
      have ra := HR1.out
      have hv := HV.out
      obtain ⟨g, rfl⟩ : ∃ g, aa = some ⟨g, 0, none⟩ := by
        obtain ⟨g, c, h⟩ := slice_box HR.out (by rw [HN.out]; omega)
        rw [hv] at h
        cases h
        exact ⟨g, rfl⟩
      rw [hv, HN.out] at ra
      have m0 := el_at (f := bpCells) (fun _ => rfl) ra hx HN.out 0 (by decide)
      have m1 := el_at (f := bpCells) (fun _ => rfl) ra hx HN.out 1 (by decide)
      simp only [bpCells, List.getElem?_cons_succ, List.getElem?_cons_zero, Nat.add_zero] at m0 m1
      have ix := HX
      clear ra hv hx
      cases hp : pairB x.1 x.2 f t
      · go_wp2
        go_round
        case rel => exact ⟨k + 1, by omega, by simp, by rw [hcs.out, HNO.out, hp]; rfl⟩
        case measure => simp [intOf]; omega
      · go_wp2
        go_ret
        refine ⟨?_, HB.out⟩
        have : blockedB N.blk f t = true := by
          unfold blockedB
          rw [List.any_eq_true]
          exact ⟨x, List.mem_of_getElem? HX.out, hp⟩
        rw [this]
        rfl
    · obtain rfl : k = n := by omega
      go_wp2
      go_ret
      have hall : N.blk.take k = N.blk := List.take_of_length_le (by rw [HN.out]; exact Nat.le_refl _)
      have hno := HNO.out
      rw [hall] at hno
      exact ⟨by rw [hno]; rfl, HB.out⟩
end Go.Proofs.Ytiindnmelegkgaa

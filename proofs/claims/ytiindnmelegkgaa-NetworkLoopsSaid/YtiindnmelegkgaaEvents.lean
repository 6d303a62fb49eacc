/- Events. -/
import Derived.Test.YtiindnmelegkgaaRSame
namespace Go.Proofs.Ytiindnmelegkgaa
open Go.RowKit
set_option linter.unusedSimpArgs false
set_option linter.unusedVariables false

theorem eqNil26 (w : World) (a : Option Addr) (n c n' c' : Nat) : (binOp .eql 26 (.slice a n c) (.slice none n' c')).run Try.prog w = .ok (.bool a.isNone) w := Lib.run_eql_slice_nil w 26 59 a n c n' c' (by kernel_rfl)

/-- The run of append([]T{}, s...), s a row of one's own. -/
theorem clone_run (w : World) (t e : TypeId) (z : Value) (size bytes : Nat) (ht : Try.prog.underlying t = some (.slice e)) (hinfo : (Try.prog.info? e).map (fun i => (i.zero, i.size, i.bytes)) = some (some z, size, bytes)) (hzs : z.cells.size = size) (hsz : 0 < size) (hby : bytes ≤ 100)
    (g n cap : Nat) (xs : List Value) (hown : w.ownsRow 0 e size (.slice (some ⟨g, 0, none⟩) n cap) n xs) (h1 : ∀ u ∈ xs, u.oneCell' = true) (hn : n ≤ 1073741824) :
    ∃ v' w', (Builtin.append_ #[t, t] t #[.slice (some ⟨w.heap.size, 0, none⟩) 0 0, .slice (some ⟨g, 0, none⟩) n cap]).run Try.prog (w.alloc (.cells #[] e)) = .ok v' w' ∧
      w'.ownsRow w.heap.size e size v' n xs ∧ Below w.heap.size w w' := by
  obtain ⟨i0, hi, hz0, hz1, hz2⟩ := info_parts hinfo
  have h0 : (w.alloc (.cells #[] e)).ownsRow w.heap.size e size (.slice (some ⟨w.heap.size, 0, none⟩) 0 0) 0 [] := World.ownsRow_made w #[] 0 (Nat.le_refl _) (Nat.zero_le _) (by simp)
  obtain ⟨v', w', hrun, hown', hgrow, -⟩ := run_append_own_wide (P := Try.prog) (w.alloc (.cells #[] e)) w.heap.size t t e i0 z size bytes ht hi hz0 hz1 hz2 hzs hsz _ 0 [] h0 ⟨g, 0, none⟩ n cap xs hown.1
    (fun j u hu => hown.alloc _ |>.cells (g := g) rfl j u hu) h1 (by simp [maxLen]; omega) (by
      have h2 : (0 + n + (0 + n) / 4 + 192) * bytes ≤ (0 + n + (0 + n) / 4 + 192) * 100 := Nat.mul_le_mul_left _ hby
      omega) (by simp)
  refine ⟨v', w', hrun, ?_, ((Below.refl _ w).alloc (Nat.le_refl _) _).grown hgrow (by simp) (by intro k hk; simp [Value.ownBlock] at hk; omega)⟩
  simpa using hown'

theorem row_mono {w : World} {base : Nat} {e : TypeId} {size : Nat} {v : Value} {n : Nat} {xs : List Value} (h : w.ownsRow base e size v n xs) : w.ownsRow 0 e size v n xs := by
  refine ⟨h.1, ?_⟩
  rcases h.2 with h | ⟨g, cap, cur, hv, h1, h2⟩
  · exact .inl h
  · exact .inr ⟨g, cap, cur, hv, Nat.zero_le _, h2⟩
theorem all44 (a : Option Addr) (n c : Nat) (w : World) : Calls Try.prog 44 #[.slice a n c] w fun e w' => e = .returned (.func (.func 61) #[] #[.pointer (some ⟨w.heap.size, 0, none⟩)]) ∧ w.alloc (.cells #[.slice a n c] 26) = w' := by
  go_enter Try.func44, Try.ntmps44
  go_wp2
  go_ret
  exact ⟨rfl, rfl⟩
theorem clone45 (w : World) (v : Value) (evs : List Ev) (hown : w.ownsRow 0 59 3 v evs.length (evs.flatMap Ev.cells)) (hn : evs.length ≤ 1073741824) :
    Calls Try.prog 45 #[v] w fun e w' => (∃ v', e = .returned v' ∧ w'.ownsRow 0 59 3 v' evs.length (evs.flatMap Ev.cells) ∧ (∀ b, v'.ownBlock = some b → w.heap.size ≤ b)) ∧ Below w.heap.size w w' := by
  have q := eqNil26
  rcases hown.2 with ⟨rfl, h0⟩ | ⟨g, cap, cur, rfl, _⟩
  · have HO := Lib.hid hown
    clear hown
    go_enter Try.func45, Try.ntmps45
    go_wp2
    go_ret
    exact ⟨⟨_, rfl, HO.out, by simp [Value.ownBlock]⟩, Below.refl _ _⟩
  · obtain ⟨v', w', hrun, ho, hb⟩ := clone_run w 26 59 _ 3 24 u26 info59 rfl (by decide) (by decide) g evs.length cap _ hown (fun u hu => by
      obtain ⟨x, _, hu⟩ := List.mem_flatMap.1 hu
      exact ev_one x u hu) hn
    have END : Hid ((∃ v'', Ending.returned v' = .returned v'' ∧ w'.ownsRow 0 59 3 v'' evs.length (evs.flatMap Ev.cells) ∧ (∀ b, v''.ownBlock = some b → w.heap.size ≤ b)) ∧ Below w.heap.size w w') :=
      Lib.hid ⟨⟨v', rfl, row_mono ho, fun b hb => (ho.lt b hb).1⟩, hb⟩
    have HR := Lib.hid hrun
    clear hrun ho hb hown
    generalize evs.length = n at *
    go_enter Try.func45, Try.ntmps45
    go_wp2_with (at_builtin; refine wpList_append_run rfl (.tmp 5) (.tmp 6) 26 rfl _ _ rfl rfl HR.out ?_)
    go_ret
    exact END.out

/-- An iterator over a copy of the events. -/
def EvSeq (w w' : World) (evs : List Ev) (e : Ending) : Prop := (∃ (B : Nat) (v : Value), e = .returned (.func (.func 61) #[] #[.pointer (some ⟨B, 0, none⟩)]) ∧ w.heap.size ≤ B ∧ w'.heap[B]? = some (.cells #[v] 26 (0, 0)) ∧
      w'.ownsRow 0 59 3 v evs.length (evs.flatMap Ev.cells) ∧ (∀ b, v.ownBlock = some b → w.heap.size ≤ b)) ∧ Below w.heap.size w w'
theorem events_any {ρ : Nat → Nat} {w : World} {p : Nat} {N : Net} (R : Rep ρ w p N) (S : Small N) :
    Calls Try.prog 23 #[.pointer (some ⟨p, 0, none⟩)] w fun e w' => EvSeq w w' N.evs e := by
  obtain ⟨c0, c1, c2, c3, c4, fr⟩ := net_cells R
  have HC := Lib.hid (clone45 w N.ve N.evs R.e (by have := S.evs; omega))
  clear R S c0 c1 c3 c4 fr
  go_enter Try.func23, Try.ntmps23
  go_wp2_with fail
  refine HC.out.mono ?_
  rintro e w1 ⟨⟨v', rfl, ho, hf⟩, hb⟩
  have END : Hid (∀ w2, w2 = w1.alloc (.cells #[v'] 26) → EvSeq w w2 N.evs (.returned (.func (.func 61) #[] #[.pointer (some ⟨w1.heap.size, 0, none⟩)]))) := Lib.hid (by
    rintro w2 rfl
    exact ⟨⟨w1.heap.size, v', rfl, hb.size, new_at rfl, ho.alloc _, hf⟩, hb.alloc hb.size _⟩)
  obtain ⟨a, c, rfl⟩ := row_slice ho
  have HB := Lib.hid hb
  clear ho hf hb
  go_wp2_with fail
  refine (all44 _ _ _ _).mono ?_
  rintro e w2 ⟨rfl, rfl⟩
  go_wp2
  go_ret
  exact END.out _ rfl
end Go.Proofs.Ytiindnmelegkgaa

/- slices.Delete of one packet in flight. -/
import Derived.Test.YtiindnmelegkgaaSend
import Derived.Laws.CopyRow
import Derived.Deep.RegionLaw
namespace Go.Proofs.Ytiindnmelegkgaa
open Go.RowKit
set_option linter.unusedSimpArgs false
set_option linter.unusedVariables false

theorem z81 (w : World) : (zeroValue 81).run Try.prog w = .ok (.agg #[.string { data := #[] }, .string { data := #[] }, .slice none 0 0, .int .i64 0, .int .i64 0]) w := Try.zeroValue81 w
def zs81 : List Value := [.string { data := #[] }, .string { data := #[] }, .slice none 0 0, .int .i64 0, .int .i64 0]
theorem run_clear1 (w : World) (g o c : Nat) (cur : Array Value) (ty : TypeId) (hg : w.heap[g]? = some (.cells cur 81 (0, 0))) (ho : o + 5 ≤ cur.size) :
    (Builtin.clear_ #[24] ty #[.slice (some ⟨g, o, none⟩) 1 c]).run Try.prog w = .ok (.tuple #[]) (w.setRow g (cur.toList.take o ++ zs81 ++ cur.toList.drop (o + 5)).toArray) := by
  have hst := run_storeCells_at (P := Try.prog) g o 81 zs81 0 cur w hg (by simpa [zs81] using ho) (by intro v hv; simp [zs81] at hv; rcases hv with rfl | rfl | rfl | rfl | rfl <;> rfl)
  simp only [Nat.add_zero] at hst
  have hzc : (Builtin.zeroCells (Value.agg #[.string { data := #[] }, .string { data := #[] }, .slice none 0 0, .int .i64 0, .int .i64 0]).cells 1).toList = zs81 := by
    simp [Builtin.zeroCells, Value.cells, zs81]
    rfl
  simp only [Builtin.clear_, Sem.run_bind, run_underlying u24, Result.andThen_ok, z81]
  simp [hzc, hst]
  rfl

/-- clear, its run known. -/
theorem wpList_clear_run {P : Program} {w : World} {ops : Array Oper} {rest : List Oper} {o : Oper} {a : Act} {Q : Exit → Act → World → Prop} (hgd : o.guard = none) (x : Operand) (t : TypeId)
    (ho : o.op = .call { callee := .builtin .clear, args := #[x], argTypes := #[t] }) (v : Value) (hx : a.eval x = v) {v' : Value} {w' : World}
    (hr : (Builtin.clear_ #[t] o.type #[v]).run P w = .ok v' w') (h : wpList P ops Q rest (a.put o.dst v') w') : wpList P ops Q (o :: rest) a w :=
  wpList_plain hgd fun _ hK => by
    unfold Oper.wp execOp
    simp only [ho, resolve, invoke, builtin, Sem.run_bind, Sem.run_pure, Result.andThen_ok, List.map_toArray, List.map_cons, List.map_nil, hx, hr]
    exact hK _ _ h

set_option maxHeartbeats 1000000 in
set_option maxRecDepth 100000 in
theorem delete_any (w : World) (g n cap i j : Nat) (cur : Array Value) (hg : w.heap[g]? = some (.cells cur 81 (0, 0))) (hs : cur.size = cap * 5) (hn : n ≤ cap) (hc : cap ≤ maxLen) (hi : i < n) (hj : j = i + 1) (h1 : ∀ u ∈ (cur.toList.take (n * 5)).drop (j * 5), u.oneCell' = true) :
    Calls Try.prog 59 #[.slice (some ⟨g, 0, none⟩) n cap, .int .i64 i, .int .i64 j] w fun e w' => e = .returned (.slice (some ⟨g, 0, none⟩) (n - 1) cap) ∧ w.grownBy w' (some g) ∧
      ∃ cur', w'.heap[g]? = some (.cells cur' 81 (0, 0)) ∧ cur'.size = cap * 5 ∧ cur'.toList.take ((n - 1) * 5) = cur.toList.take (i * 5) ++ (cur.toList.take (n * 5)).drop (j * 5) := by
  obtain ⟨m, hm⟩ : ∃ m, n = j + m := ⟨n - j, by omega⟩
  obtain ⟨A, hA, hA2⟩ : ∃ A : Addr, (if cap = j then (some (⟨g, 0, none⟩ : Addr)) else some ⟨g, j * 5, none⟩) = some A ∧ (∀ t u, ((cur.toList.take (n * 5)).drop (j * 5))[t]? = some u → w.cell? (A.add t) = some u) := by
    by_cases h : cap = j
    · exact ⟨_, if_pos h, fun t u hu => by
        have : ((cur.toList.take (n * 5)).drop (j * 5)).length = 0 := by simp; omega
        rw [List.length_eq_zero_iff.1 this] at hu
        simp at hu⟩
    · refine ⟨_, if_neg h, fun t u hu => ?_⟩
      rw [Addr.add_lit, cell_of_row w g _ cur 81 (0, 0) hg]
      rw [List.getElem?_drop, List.getElem?_take] at hu
      split at hu
      · simpa using hu
      · cases hu
  obtain ⟨news, hnews⟩ : ∃ news, news = (cur.toList.take (n * 5)).drop (j * 5) := ⟨_, rfl⟩
  rw [← hnews] at hA2 h1 ⊢
  have hnl : news.length = (n - j) * 5 := by rw [hnews]; simp; omega
  obtain ⟨i0, hi0, hz0, hz1, hz2⟩ := info_parts info81
  obtain ⟨cur1, hcur1⟩ : ∃ c, c = (cur.toList.take (i * 5) ++ news ++ cur.toList.drop (i * 5 + news.length)).toArray := ⟨_, rfl⟩
  have hr1 := run_append_room (P := Try.prog) w.drew 24 24 81 i0 u24 hi0 g i cap cur hg A (n - j) (cap - j) news (by rw [hz1]; exact hnl) hA2 h1 (by omega) (by rw [hz1]; omega)
  rw [hz1, ← hcur1] at hr1
  obtain ⟨W1, hW1⟩ : ∃ W1, W1 = w.drew.setRow g cur1 := ⟨_, rfl⟩
  rw [← hW1] at hr1
  have g1 : W1.heap[g]? = some (.cells cur1 81 (0, 0)) := by rw [hW1]; exact setRow_heap w.drew g cur cur1 81 (0, 0) hg
  have hs1 : cur1.size = cap * 5 := by rw [hcur1]; simp; omega
  have hm1 : i + (n - j) = n - 1 := by omega
  have hr2 := fun ty => run_clear1 W1 g ((n - 1) * 5) (cap - (n - 1)) cur1 ty g1 (by omega)
  obtain ⟨cur2, hcur2⟩ : ∃ c, c = (cur1.toList.take ((n - 1) * 5) ++ zs81 ++ cur1.toList.drop ((n - 1) * 5 + 5)).toArray := ⟨_, rfl⟩
  rw [← hcur2] at hr2
  have g2 : (W1.setRow g cur2).heap[g]? = some (.cells cur2 81 (0, 0)) := setRow_heap W1 g cur1 cur2 81 (0, 0) g1
  have hs2 : cur2.size = cap * 5 := by rw [hcur2]; simp [zs81]; omega
  have ht2 : cur2.toList.take ((n - 1) * 5) = cur.toList.take (i * 5) ++ news := by
    rw [hcur2]
    have e1 : (cur1.toList.take ((n - 1) * 5)).length = (n - 1) * 5 := by simp; omega
    simp only [List.append_assoc]
    rw [List.take_left' e1, hcur1]
    have e2 : (cur.toList.take (i * 5) ++ news).length = (n - 1) * 5 := by simp; omega
    exact List.take_left' e2
  have gr : w.grownBy (W1.setRow g cur2) (some g) := ⟨by rw [hW1]; rfl, by rw [hW1]; rfl, by rw [hW1]; rfl, by rw [hW1]; simp [World.setRow], fun k _ hk => by
    rw [setRow_other _ _ _ _ (fun e => hk (by rw [e])), hW1, setRow_other _ _ _ _ (fun e => hk (by rw [e]))]; rfl⟩
  have HA := Lib.hid hA
  have HR1 := Lib.hid hr1
  have HR2 := Lib.hid hr2
  have HE : Hid (∃ cur', (W1.setRow g cur2).heap[g]? = some (.cells cur' 81 (0, 0)) ∧ cur'.size = cap * 5 ∧ cur'.toList.take ((n - 1) * 5) = cur.toList.take (i * 5) ++ news) := Lib.hid ⟨cur2, g2, hs2, ht2⟩
  have GR := Lib.hid gr
  clear gr hW1 hA hr1 hr2 g2 hs2 ht2 hcur2 hs1 g1 hcur1 hz0 hz1 hz2 hnl hnews hA2 h1
  have hij : i < j := by omega
  have hjn : j ≤ n := by omega
  obtain ⟨k, hk⟩ : ∃ k, k = n - 1 := ⟨_, rfl⟩
  have hnk : n - k = 1 := by omega
  have hkn : k ≤ n := by omega
  have hck : ¬ cap = k := by omega
  rw [← hk] at HR2 HE ⊢
  rw [hm1, ← hk] at HR1
  clear hm1 hk hm hj
  have hcm : (cap : Int) ≤ 9223372036854775807 := by simp [maxLen] at hc; omega
  go_enter Try.func59, Try.ntmps59
  go_wp2_with fail
  refine wp_region_chain (wsq [w.drew, W1]) [6] [] (by kernel_rfl) (by kernel_rfl) (by kernel_rfl) (by kernel_rfl) wsq_0 ?_
  iterate 2 (refine chain_pure rfl rfl ?_; apply Exists.intro; refine ⟨fun ww => ?_, ?_⟩; (focus (unfold calmAt calmUpon; go_simp; rfl)); (simp only [Act.put, List.setIfInBounds_toArray, List.set_cons_succ, List.set_cons_zero]))
  have hic : i ≤ cap := by omega
  have hjc : j ≤ cap := by omega
  iterate 3 (refine chain_pure rfl rfl ?_; apply Exists.intro; refine ⟨fun ww => ?_, ?_⟩; (focus (unfold calmAt calmUpon; go_simp; rfl)); (simp only [Act.put, List.setIfInBounds_toArray, List.set_cons_succ, List.set_cons_zero]))
  have hA := HA.out
  refine chain_pure rfl rfl ?_
  apply Exists.intro
  refine ⟨fun ww => ?_, ?_⟩
  focus
    unfold calmAt calmUpon
    go_simp
    rfl
  (simp only [Act.put, List.setIfInBounds_toArray, List.set_cons_succ, List.set_cons_zero])
  clear hA
  refine chain_write (by kernel_rfl) rfl 0 rfl (by rfl) ?_
  apply Exists.intro
  refine ⟨fun ww hww => ?_, ?_⟩
  focus
    have e := wsq_lt1 (Nat.zero_lt_one) hww
    subst e
    exact calmAt_append (.tmp 22) (.tmp 25) 24 rfl _ _ rfl rfl HR1.out rfl
  (simp only [Act.put, List.setIfInBounds_toArray, List.set_cons_succ, List.set_cons_zero])
  iterate 1 (refine chain_pure rfl rfl ?_; apply Exists.intro; refine ⟨fun ww => ?_, ?_⟩; (focus (unfold calmAt calmUpon; go_simp; rfl)); (simp only [Act.put, List.setIfInBounds_toArray, List.set_cons_succ, List.set_cons_zero]))
  refine calm_nil ?_
  intro ww hww
  have e : W1 = ww := by simpa [wsq] using hww
  subst e
  clear hww
  have hr2 := HR2.out 0
  go_wp2
  go_ret
  exact ⟨rfl, GR.out, HE.out⟩
end Go.Proofs.Ytiindnmelegkgaa

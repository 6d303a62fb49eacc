/- flight: the packets in flight are those of the reference. -/
import Derived.Test.YtiindnmelegkgaaF1
import Derived.Deep.CutBlock
import Derived.Deep.DeepCutAuto
namespace Go.Proofs.Ytiindnmelegkgaa
open Go.RowKit Go.Shelf
set_option linter.unusedSimpArgs false
set_option linter.unusedVariables false
attribute [local go_sem] Oper.semAt_some

def lastI (pre : List (Nat × Pk)) : Int := (pre.getLast?.map fun x => (x.1 : Int)).getD (-1)
theorem lastI_snoc (pre : List (Nat × Pk)) (x : Nat × Pk) : lastI (pre ++ [x]) = (x.1 : Int) := by simp [lastI]
/-- What is known of a packet in flight that is handed out. -/
theorem fl_facts {A : Abs} {RN : RNet} {i base : Nat} (P : Pair A RN.abs i) {pre : List (Nat × Pk)} {x : Nat × Pk} {W : World} (h : PxF base A.fl pre x W) (hlt : pre.length < A.fl.length) :
    ∃ (y : AFl) (xr : RFl), y ∈ A.fl ∧ y.id = x.1 ∧ RN.all[x.1]? = some xr ∧ xr.gone = false ∧ y.src = xr.src ∧ A.genu y = genuR RN xr ∧ sameS x.2 xr.p = true ∧ lastI pre < (x.1 : Int) ∧ xr.src < RN.hist.length ∧ xr.p.bs = x.2.bs := by
  have hy := List.getElem?_eq_getElem hlt
  have hgd : A.fl.getD pre.length zeroF = A.fl[pre.length] := by simp [List.getD, hy]
  have hxe := h.1
  rw [hgd] at hxe
  have e1 : A.fl[pre.length].id = x.1 := (congrArg Prod.fst hxe).symm
  have e2 : (⟨A.fl[pre.length].frm, A.fl[pre.length].to, A.fl[pre.length].bs⟩ : APk) = x.2.abs := (congrArg Prod.snd hxe).symm
  have hm : A.fl[pre.length] ∈ A.fl := List.getElem_mem hlt
  have hm2 : A.fl[pre.length] ∈ live 0 RN.abs.all := by rw [← P.sim.fl]; exact hm
  obtain ⟨j, xa, hj, hg, he⟩ := live_mem _ _ _ hm2
  rw [Nat.zero_add] at he
  have hj' : j = x.1 := by rw [← e1, he]
  subst hj'
  have hRA : RN.abs.all = RN.all.map RFl.abs := rfl
  rw [hRA] at hj
  obtain ⟨xr, hxr, rfl⟩ := map_get hj
  obtain ⟨hsrc, hgen⟩ := P.genu hxr hg
  have hy' : A.fl[pre.length] = ⟨xr.p.frm, xr.p.to, xr.p.bs, x.1, xr.src⟩ := he
  refine ⟨A.fl[pre.length], xr, hm, e1, hxr, hg, by rw [hy'], by rw [hy']; exact hgen, ?_, ?_, hsrc, by rw [hy'] at e2; exact congrArg APk.bs e2⟩
  · rw [hy'] at e2
    have a1 : xr.p.frm = x.2.frm := congrArg APk.frm e2
    have a2 : xr.p.to = x.2.to := congrArg APk.to e2
    have a3 : xr.p.bs = x.2.bs := congrArg APk.bs e2
    simp [sameS, a1, a2, a3]
  · rcases Nat.eq_zero_or_pos pre.length with h0 | h0
    · have : pre = [] := List.length_eq_zero_iff.1 h0
      subst this
      show (-1 : Int) < _
      omega
    · have hp := h.2.2.2
      have hl : pre.length - 1 < pre.length := by omega
      have hlast : pre.getLast? = some pre[pre.length - 1] := by rw [List.getLast?_eq_getElem?]; exact List.getElem?_eq_getElem hl
      have h3 : (pre.map absP)[pre.length - 1]? = (upF A.fl pre.length)[pre.length - 1]? := by rw [hp]
      unfold upF at h3
      rw [List.getElem?_map, List.getElem?_eq_getElem hl, List.getElem?_map, List.getElem?_take, if_pos hl, List.getElem?_eq_getElem (show pre.length - 1 < A.fl.length by omega)] at h3
      simp only [Option.map_some, Option.some.injEq] at h3
      have h4 : pre[pre.length - 1].1 = A.fl[pre.length - 1].id := congrArg Prod.fst h3
      have hpw : A.fl.Pairwise (fun x y => x.id < y.id) := by rw [P.sim.fl]; exact live_pair _ _
      have h5 := List.pairwise_iff_getElem.1 hpw (pre.length - 1) pre.length (by omega) hlt (by omega)
      unfold lastI
      rw [hlast]
      simp only [Option.map_some, Option.getD_some]
      omega

/-- A byte of one's own row. -/
theorem own_byte {W : World} {g n c : Nat} {bs : List Int} (h : ownB W (.slice (some ⟨g, 0, none⟩) n c) bs) (hn : bs.length = n) {k : Nat} (hk : k < n) :
    ∃ (u : Int) (cur : Array Value), W.heap[g]? = some (.cells cur 5 (0, 0)) ∧ W.cell? ⟨g, k, none⟩ = some (.int .u8 u) ∧ W.frozen? ⟨g, k, none⟩ = false ∧
      ∀ v : Int, ownB (W.setCell ⟨g, k, none⟩ (.int .u8 v)) (.slice (some ⟨g, 0, none⟩) n c) (bs.set k v) ∧ (bs.set k v).length = n := by
  obtain ⟨h1, h2⟩ := h
  rcases h2 with ⟨h2, _⟩ | ⟨g', cap, cur, hv, h3, h4, h5, h6, h7, h8⟩
  · cases h2
  · cases hv
    have hkb : k < bs.length := by omega
    have hkc : k < cur.size := by omega
    have hc : cur.toList[k]? = some (Value.int .u8 bs[k]) := by
      have : (cur.toList.take (bs.length * 1))[k]? = (bs.map (Value.int .u8))[k]? := by rw [h8]
      rw [List.getElem?_take, if_pos (by omega), List.getElem?_map, List.getElem?_eq_getElem hkb] at this
      exact this
    refine ⟨bs[k], cur, h4, ?_, frozen_blk h4 k, fun v => ⟨⟨by simp, .inr ⟨g, c, cur.setIfInBounds k (.int .u8 v), by simp [hn], h3, set_at h4, by simpa using h5, h6, by simpa using h7, ?_⟩⟩, by simp [hn]⟩⟩
    · rw [cell_of_row _ _ _ _ _ _ h4]
      simpa using hc
    · simp only [Array.toList_setIfInBounds, List.length_set, Nat.mul_one] at h8 ⊢
      rw [List.take_set, h8, List.map_set]

end Go.Proofs.Ytiindnmelegkgaa

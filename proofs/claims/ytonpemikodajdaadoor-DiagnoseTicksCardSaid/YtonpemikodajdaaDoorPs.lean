/- Plain: a signal that is too high in every tick sets its code in time. -/
import Derived.Test.YtonpemikodajdaaDoorPm
namespace Go.Proofs.YtonpemikodajdaaDoor
open Go.RowKit

theorem perM_of {s : WSt} {i : Nat} {n c : Int} {K : List MCode} (h : perM s i = (n, c, K)) : s.ns.getD i 0 = n ∧ s.cs.getD i 0 = c ∧ kOf s.ks i = K := by
  unfold perM at h
  injection h with a h
  injection h with b c
  exact ⟨a, b, c⟩
theorem beg_per (l : List MMon) (w : Nat) : perM (begOf l) w = (0, 0, []) := by
  have hz : (List.replicate l.length (0 : Int)).getD w 0 = 0 := by
    rw [List.getD_eq_getElem?_getD, List.getElem?_replicate]; split <;> rfl
  show ((List.replicate l.length (0 : Int)).getD w 0, (List.replicate l.length (0 : Int)).getD w 0, kOf [] w) = _
  rw [hz]
  rfl
theorem count_high {m : MMon} {row : List Int} (h : row.getD m.sig.toNat 0 = m.high + 1) (n : Int) : countM m row n = min (n + m.up) m.limit := by
  unfold countM cntS
  rw [h, if_neg]
  unfold inB
  simp
  omega
theorem sets_low {l : List MMon} (hm : monsB l = true) {w : Nat} (hw : w < l.length) {own : List Int} (ho : own.getD (l.getD w dMon).sig.toNat 0 = (l.getD w dMon).high + 1) (rs : List (List Int)) :
    ∀ k : Nat, (∀ j, j < k → rs.getD j [] = own) → (k : Int) * (l.getD w dMon).up < (l.getD w dMon).limit → perM (watchOf l rs k) w = ((k : Int) * (l.getD w dMon).up, 0, [])
  | 0, _, _ => by
    show perM (begOf l) w = _
    rw [beg_per]
    simp
  | k + 1, hr, hk => by
    have hb := monB_bounds (mon_at hm hw).2
    have e : ((k + 1 : Nat) : Int) * (l.getD w dMon).up = (k : Int) * (l.getD w dMon).up + (l.getD w dMon).up := by
      push_cast
      rw [Int.add_mul, Int.one_mul]
    rw [e] at hk ⊢
    have ih := perM_of (sets_low hm hw ho rs k (fun j hj => hr j (by omega)) (by omega))
    show perM (tickOf l k (rs.getD k []) (watchOf l rs k)) w = _
    rw [tick_per (SOk.watched hm rs k) hm _ _ hw, hr k (by omega), ih.1, ih.2.1, ih.2.2]
    unfold stepM
    rw [count_high ho]
    have e1 : min ((k : Int) * (l.getD w dMon).up + (l.getD w dMon).up) (l.getD w dMon).limit = (k : Int) * (l.getD w dMon).up + (l.getD w dMon).up := by omega
    rw [e1]
    unfold codeM
    rw [if_neg (by omega)]
    split <;> rfl
theorem sets_top {l : List MMon} (hm : monsB l = true) {w : Nat} (hw : w < l.length) {own : List Int} (ho : own.getD (l.getD w dMon).sig.toNat 0 = (l.getD w dMon).high + 1) (rs : List (List Int)) (k : Nat) (hr : ∀ j, j < k + 1 → rs.getD j [] = own) (h1 : (k : Int) * (l.getD w dMon).up < (l.getD w dMon).limit)
    (h2 : (l.getD w dMon).limit ≤ (k : Int) * (l.getD w dMon).up + (l.getD w dMon).up) : kOf (watchOf l rs (k + 1)).ks w = [⟨w, k, k, 1, own, true⟩] := by
  have ih := perM_of (sets_low hm hw ho rs k (fun j hj => hr j (by omega)) h1)
  have e := tick_per (SOk.watched hm rs k) hm k own hw
  rw [ih.1, ih.2.1, ih.2.2] at e
  have h3 := (perM_of e).2.2
  show kOf (tickOf l k (rs.getD k []) (watchOf l rs k)).ks w = _
  rw [hr k (by omega), h3, count_high ho]
  have e1 : min ((k : Int) * (l.getD w dMon).up + (l.getD w dMon).up) (l.getD w dMon).limit = (l.getD w dMon).limit := by omega
  rw [e1]
  unfold codeM
  rw [if_pos rfl]
  rfl
/-- the codes of a monitor, by place -/
theorem kOf_none {ks : List MCode} {w : Int} (h : kOf ks w = []) {i : Nat} (hi : i < ks.length) : (ks.getD i dCode).mon ≠ w := fun e => by
  have : ks.getD i dCode ∈ kOf ks w := kOf_mem.2 ⟨getD_mem hi, e⟩
  rw [h] at this
  cases this
theorem kOf_place {ks : List MCode} {w : Int} {c : MCode} (ha : AscC ks) (h : kOf ks w = [c]) : ∃ p, p < ks.length ∧ ks.getD p dCode = c ∧ c.mon = w ∧ ∀ i, i < ks.length → i ≠ p → (ks.getD i dCode).mon ≠ w := by
  have hh : hasS ks w = true := by
    rcases hq : hasS ks w
    · rw [kOf_nil.1 hq] at h; cases h
    · rfl
  obtain ⟨e1, _, _⟩ := kOf_one ha hh
  have hat := has_at ha hh
  rw [h] at e1
  injection e1 with e1
  refine ⟨findS ks w, hat.1, e1.symm, by rw [e1]; exact hat.2, fun i hi hne e => ?_⟩
  rcases Nat.lt_or_gt_of_ne hne with hlt | hlt
  · have := ha.1 i _ hlt hat.1
    omega
  · have := ha.1 _ i hlt hi
    omega
end Go.Proofs.YtonpemikodajdaaDoor

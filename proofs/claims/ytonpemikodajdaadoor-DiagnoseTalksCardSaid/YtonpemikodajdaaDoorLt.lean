/- Walk: the law DiagnoseTalks. -/
import Derived.Test.YtonpemikodajdaaDoorAc8
import Derived.Test.YtonpemikodajdaaDoorWk
namespace Go.Proofs.YtonpemikodajdaaDoor
open Go.RowKit

theorem OutR.below {w w' : World} {base B : Nat} {v : Value} {l : List (Int × Int)} (h : OutR w base v l) (hb : Below B w w') (hB : w.heap.size ≤ B) : OutR w' base v l := h.keep fun g _ hg => hb.block g (by omega)
set_option maxRecDepth 100000 in
set_option maxHeartbeats 8000000 in
theorem talks_any (a : MAcc) (A : Option Addr) (lc : Nat) (l : List MReq) (s : Int) (w : World) (h : ReqsA w w.heap.size A l) (hT : TabW w) :
    Calls Tryd.prog 12 #[accV a, .slice A l.length lc, .int .i64 s] w fun e w' => e = .returned (.bool true) ∧ Below w.heap.size w w' := by
  unfold accV
  have hb1 : Below w.heap.size w (w.alloc (.cells #[.int .i64 a.secret, .int .i64 a.tries, .int .i64 a.lock, .int .i64 a.idle] 70)) := (Below.refl _ _).alloc (Nat.le_refl _) _
  have hsz : (w.alloc (.cells #[.int .i64 a.secret, .int .i64 a.tries, .int .i64 a.lock, .int .i64 a.idle] 70)).heap.size = w.heap.size + 1 := by simp
  have hcells : ∀ wx, Below (w.heap.size + 1) (w.alloc (.cells #[.int .i64 a.secret, .int .i64 a.tries, .int .i64 a.lock, .int .i64 a.idle] 70)) wx → wx.heap[w.heap.size]? = some (.cells #[.int .i64 a.secret, .int .i64 a.tries, .int .i64 a.lock, .int .i64 a.idle] 70 (0, 0)) := fun wx hb => (hb.block _ (by omega)).trans (heap_alloc_new w _)
  have hc : ∀ wx, Below (w.heap.size + 1) (w.alloc (.cells #[.int .i64 a.secret, .int .i64 a.tries, .int .i64 a.lock, .int .i64 a.idle] 70)) wx → wx.cell? ⟨w.heap.size, 0, none⟩ = some (.int .i64 a.secret) ∧ wx.cell? ⟨w.heap.size, 1, none⟩ = some (.int .i64 a.tries) ∧ wx.cell? ⟨w.heap.size, 2, none⟩ = some (.int .i64 a.lock) ∧ wx.cell? ⟨w.heap.size, 3, none⟩ = some (.int .i64 a.idle) := fun wx hb => ⟨cell_of_row wx _ 0 _ 70 (0, 0) (hcells wx hb), cell_of_row wx _ 1 _ 70 (0, 0) (hcells wx hb), cell_of_row wx _ 2 _ 70 (0, 0) (hcells wx hb), cell_of_row wx _ 3 _ 70 (0, 0) (hcells wx hb)⟩
  have HCS := Lib.hid hc
  obtain ⟨n0, n1, n2, n3⟩ := hc _ (Below.refl _ _)
  clear hc hcells
  obtain ⟨E, hE⟩ : ∃ E, talkE a l = E := ⟨_, rfl⟩
  obtain ⟨RR, hRR⟩ : ∃ RR, RR = if E = 0 then runS a comp0 l else [] := ⟨_, rfl⟩
  have HTA : Hid (∀ wx, Below (w.heap.size + 1) (w.alloc (.cells #[.int .i64 a.secret, .int .i64 a.tries, .int .i64 a.lock, .int .i64 a.idle] 70)) wx → Calls Tryd.prog 45 #[.agg #[.int .i64 a.secret, .int .i64 a.tries, .int .i64 a.lock, .int .i64 a.idle], .slice A l.length lc] wx fun e w' => Below wx.heap.size wx w' ∧ ∃ v, e = .returned (.tuple #[v, .int .i64 E]) ∧ OutR w' wx.heap.size v RR) := fun wx hb => by
    have h9 := talk_any a A lc l wx ((h.keep (hb1.trans (hb.mono (by omega)))).more (by have := hb.size; omega))
    unfold TalkPost at h9
    rw [hE, ← hRR] at h9
    exact h9
  have HTB : Hid (∀ wx, Below (w.heap.size + 1) (w.alloc (.cells #[.int .i64 a.secret, .int .i64 a.tries, .int .i64 a.lock, .int .i64 a.idle] 70)) wx → Calls Tryd.prog 46 #[.agg #[.int .i64 a.secret, .int .i64 a.tries, .int .i64 a.lock, .int .i64 a.idle], .slice A l.length lc] wx fun e w' => Below wx.heap.size wx w' ∧ ∃ v, e = .returned (.tuple #[v, .int .i64 E]) ∧ OutR w' wx.heap.size v RR) := fun wx hb => by
    have h9 := rtalk_any a A lc l wx ((h.keep (hb1.trans (hb.mono (by omega)))).more (by have := hb.size; omega))
    rw [← run_eq] at h9
    unfold TalkPost at h9
    rw [hE, ← hRR] at h9
    exact h9
  have HKA : Hid (∀ wx, Calls Tryd.prog 47 #[.agg #[.int .i64 a.secret, .int .i64 a.tries, .int .i64 a.lock, .int .i64 a.idle], .int .i64 s] wx fun e w' => e = .returned (.tuple #[.int .i64 (keyR a s).1, .int .i64 (keyR a s).2]) ∧ Below wx.heap.size wx w') := fun wx => Key_any a s wx rfl
  have HKB : Hid (∀ wx, Calls Tryd.prog 48 #[.agg #[.int .i64 a.secret, .int .i64 a.tries, .int .i64 a.lock, .int .i64 a.idle], .int .i64 s] wx fun e w' => e = .returned (.tuple #[.int .i64 (keyR a s).1, .int .i64 (keyR a s).2]) ∧ Below wx.heap.size wx w') := fun wx => rKey_any a s wx rfl
  generalize hko : keyR a s = ko at *
  clear hko
  have HTW := Lib.hid hT
  have hRl : RR.length ≤ 2 ^ 63 - 1 := by
    have := h.1
    unfold maxLen at this
    rw [hRR]
    split
    · rw [runS_len]; exact this
    · exact Nat.zero_le _
  clear hE hT hRR
  go_enter Tryd.func12, Tryd.ntmps12
  go_wp2_with (first | (go_at_call 45; refine (HTA.out _ (Below.refl _ _)).mono ?_; rintro e w2 ⟨hb2, v, rfl, hO⟩; have HO := Lib.hid hO; obtain ⟨Av, cv, rfl, _⟩ := HO.out.lenV; have HB2 : Hid (Below (w.heap.size + 1) (w.alloc (.cells #[.int .i64 a.secret, .int .i64 a.tries, .int .i64 a.lock, .int .i64 a.idle] 70)) w2) := hb2.mono (by omega); obtain ⟨p0, p1, p2, p3⟩ := HCS.out w2 HB2.out; clear hO hb2) | (go_at_call 46; refine (HTB.out _ HB2.out).mono ?_; rintro e w3 ⟨hb3, v3, rfl, hO3⟩; have HO3 := Lib.hid hO3; obtain ⟨Av3, cv3, rfl, _⟩ := HO3.out.lenV; have HB3 : Hid (Below (w.heap.size + 1) (w.alloc (.cells #[.int .i64 a.secret, .int .i64 a.tries, .int .i64 a.lock, .int .i64 a.idle] 70)) w3) := HB2.out.trans (hb3.mono (by have := HB2.out.size; omega)); have HO2 : Hid (OutR w3 _ (.slice Av _ cv) _) := HO.out.below hb3 (Nat.le_refl _); clear hO3 hb3))
  go_loopw [11] (fun vi wr => ∃ k : Nat, k ≤ RR.length ∧ vi = .int .i64 k ∧ Hid (Below w3.heap.size w3 wr)) (fun vi _ => RR.length - (intOf vi).toNat)
  case atStart => exact ⟨0, Nat.zero_le _, rfl, Below.refl _ _⟩
  case round =>
    obtain ⟨k, hk, rfl, HB⟩ := hrel
    by_cases hlt : k < RR.length
    · obtain ⟨p, g, cap, hp, hv, _, _, c0, c1⟩ := (HO2.out.below HB.out (Nat.le_refl _)).at_ hlt
      obtain ⟨p', g', cap', hp', hv', _, _, d0, d1⟩ := (HO3.out.below HB.out (Nat.le_refl _)).at_ hlt
      rw [hp] at hp'
      injection hp' with hp'
      subst hp'
      injection hv with hA1 _ hA2
      injection hv' with hA3 _ hA4
      subst hA1; subst hA2; subst hA3; subst hA4
      clear hp
      go_wp2_with fail
      go_quiet (fail)
      go_wp2_with fail
      go_roundw
      case rel => exact ⟨k + 1, by omega, by go_num, ⟨HB.out.os, HB.out.tape, HB.out.output, HB.out.size, HB.out.block⟩⟩
      case measure => simp [intOf]; omega
    · obtain rfl : k = RR.length := by omega
      have HB4 : Hid (Below (w.heap.size + 1) (w.alloc (.cells #[.int .i64 a.secret, .int .i64 a.tries, .int .i64 a.lock, .int .i64 a.idle] 70)) wr) := HB3.out.trans (HB.out.mono (by have := HB3.out.size; omega))
      obtain ⟨q0, q1, q2, q3⟩ := HCS.out wr HB4.out
      clear p0 p1 p2 p3 n0 n1 n2 n3
      go_wp2_with (first | (go_at_call 47; refine (HKA.out _).mono ?_; rintro e w5 ⟨rfl, hb5⟩; have HB5 : Hid (Below (w.heap.size + 1) (w.alloc (.cells #[.int .i64 a.secret, .int .i64 a.tries, .int .i64 a.lock, .int .i64 a.idle] 70)) w5) := HB4.out.trans (hb5.mono (by have := HB4.out.size; omega)); obtain ⟨r0, r1, r2, r3⟩ := HCS.out w5 HB5.out; clear hb5) | (go_at_call 48; refine (HKB.out _).mono ?_; rintro e w6 ⟨rfl, hb6⟩; have HB6 : Hid (Below (w.heap.size + 1) (w.alloc (.cells #[.int .i64 a.secret, .int .i64 a.tries, .int .i64 a.lock, .int .i64 a.idle] 70)) w6) := HB5.out.trans (hb6.mono (by have := HB5.out.size; omega)); clear hb6) | (go_at_call 18; refine (works_any _ ((HTW.out.keep (hb1.trans (HB6.out.mono (by omega)))))).mono ?_; rintro e w7 ⟨rfl, hb7⟩))
      go_ret
      exact ⟨rfl, (hb1.trans (HB6.out.mono (by omega))).trans (hb7.mono (by have := HB6.out.size; omega))⟩
end Go.Proofs.YtonpemikodajdaaDoor

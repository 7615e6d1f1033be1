/- Walks: bus.higher. -/
import Derived.Test.YtlbbhlkbhegegaaF1
import Derived.Test.YtlbbhlkbhegegaaLaws
import Derived.Test.YtlbbhlkbhegegaaTail
namespace Go.Proofs.Ytlbbhlkbhegegaa
open Go.RowKit

def higherB (l : List MFrame) (r : Int) (j : Nat) : Bool := decide ((l.getD j ⟨0, 0, 0, 0, 0⟩).rank < r)
theorem higherB_of {l : List MFrame} {j : Nat} {f : MFrame} {r : Int} (h : l[j]? = some f) : higherB l r j = decide (f.rank < r) := by
  unfold higherB; rw [List.getD_eq_getElem?_getD, h]; rfl
set_option maxHeartbeats 1000000 in
theorem higher_any (A : Option Addr) (cap : Nat) (l : List MFrame) (i : Nat) (own : MFrame) (w : World) (h : FramesA w w.heap.size A l) (hl : l.length ≤ 40) (hi : l[i]? = some own) (hil : i < l.length) :
    Calls Try.prog 66 #[.slice A l.length cap, .int .i64 i] w fun e w' => ∃ gb, e = .returned (.slice (some ⟨gb, 0, none⟩) l.length l.length) ∧ w.heap.size ≤ gb ∧ OwnF w' gb 4 l.length (fun j => .bool (higherB l own.rank j)) ∧ Below w.heap.size w w' := by
  have HI := Lib.hid hi
  clear hi
  go_enter Try.func66, Try.ntmps66
  go_wp2_with (at_make; refine mk_bools _ rfl _ _ rfl l.length rfl rfl (by omega) ?_; intro w2 hG hb2)
  have hgl := hG.lt
  go_loopw [13] (fun v wr => ∃ k : Nat, k ≤ l.length ∧ v = .int .i64 k ∧ OwnF wr w.heap.size 4 l.length (fun j => .bool (if j < k then higherB l own.rank j else false)) ∧ Below w.heap.size w wr) (fun v _ => l.length - (intOf v).toNat)
  case atStart => exact ⟨0, Nat.zero_le _, rfl, hG.congr (fun j _ => by simp), hb2⟩
  case round =>
    clear hG hgl
    obtain ⟨k, hk, rfl, hG, hbw⟩ := hrel
    have hgl := hG.lt
    by_cases hlt : k < l.length
    · obtain ⟨f, b, off, hf, rfl, hbb, c0, c1, c2, c3, c4⟩ := (h.keep hbw).at_ hlt
      obtain ⟨f', b', off', hf', he, _, _, _, _, _, d4⟩ := (h.keep hbw).at_ hil
      rw [HI.out] at hf'
      injection hf' with hf'
      injection he with he
      injection he with he1 he2
      subst hf'
      subst he1
      subst he2
      have HB := Lib.hid (higherB_of (r := own.rank) hf)
      clear hf
      have hb1 : Below w.heap.size wr (wr.alloc (.cells #[.int .i64 f.size, .int .i64 f.every, .int .i64 f.jitter, .int .i64 f.due, .int .i64 f.rank] 41)) := (Below.refl _ _).alloc (by omega) _
      have hG1 := hG.alloc (.cells #[.int .i64 f.size, .int .i64 f.every, .int .i64 f.jitter, .int .i64 f.due, .int .i64 f.rank] 41)
      have n4 := newcell wr #[.int .i64 f.size, .int .i64 f.every, .int .i64 f.jitter, .int .i64 f.due, .int .i64 f.rank] 41 4
      simp only [List.getElem?_toArray, List.getElem?_cons_succ, List.getElem?_cons_zero] at n4
      have d4' := (bcell hb1 b (off + i * 5 + 4) hbb).trans d4
      go_wp2_with fail
      generalize hW : wr.alloc (.cells #[.int .i64 f.size, .int .i64 f.every, .int .i64 f.jitter, .int .i64 f.due, .int .i64 f.rank] 41) = w5 at *
      have gf := hG1.frozen k
      have gc := hG1.cell hlt
      clear hW c0 c1 c2 c3 c4 d4
      refine wp_region_quiet_tail 11 (by kernel_rfl) (by kernel_rfl) ?_
      simp only [List.take_succ_cons, List.take_zero, List.drop_succ_cons, List.drop_zero]
      repeat (go_big_quiet_step (fail))
      refine wpQuiet_nil ?_
      go_wp2_with fail
      go_roundw
      case rel =>
        refine ⟨k + 1, by omega, by go_num, ((hG1.set k (.bool (decide (f.rank < own.rank)))).drewN 1).congr fun j _ => ?_, (hbw.trans hb1).trans (((Below.refl _ _).setCell (p := ⟨w.heap.size, k, none⟩) (Nat.le_refl _) _).drew)⟩
        by_cases h1 : j = k
        · subst h1; rw [if_pos rfl, if_pos (by omega), HB.out]
        · rw [if_neg h1]
          by_cases h2 : j < k
          · rw [if_pos h2, if_pos (by omega)]
          · rw [if_neg h2, if_neg (by omega)]
      case measure => simp [intOf]; omega
    · obtain rfl : k = l.length := by omega
      go_wp2_with fail
      go_ret
      exact ⟨w.heap.size, rfl, Nat.le_refl _, hG.congr fun j hj => by rw [if_pos hj], hbw⟩
end Go.Proofs.Ytlbbhlkbhegegaa

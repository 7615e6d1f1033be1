/- Walks: checkLevel, leveled. -/
import Derived.Test.YtegclodchhcbaaaCk
import Derived.Test.YtegclodchhcbaaaRck
namespace Go.Proofs.Ytegclodchhcbaaa
open Go.RowKit

/-- the first error of a grid and a level -/
def levelG (g : MGrid) (l : Int) : Int := if checkG g = 0 then (if inB l 0 4 = true then 0 else 1) else checkG g
set_option maxRecDepth 100000 in
set_option maxHeartbeats 4000000 in
theorem checkLevel_any (g : MGrid) (A1 A2 A3 : Option Addr) (c1 c2 c3 : Nat) (l : Int) (w : World) (h : GridA w w.heap.size g A1 A2 A3) :
    Calls Try.prog 79 #[.agg (gridC g A1 A2 A3 c1 c2 c3), .int .i64 l] w fun e w' => e = .returned (.int .i64 (levelG g l)) ∧ Below w.heap.size w w' := by
  obtain ⟨E, hE⟩ : ∃ E, checkG g = E := ⟨_, rfl⟩
  have hb1 : Below w.heap.size w (w.alloc (.cells #[.int .i64 g.nodes, .slice A1 g.lines.length c1, .slice A2 g.srcs.length c2, .slice A3 g.users.length c3] 26)) := (Below.refl _ _).alloc (Nat.le_refl _) _
  have HB1 := Lib.hid hb1
  have HCK := Lib.hid (check_any g A1 A2 A3 c1 c2 c3 _ ((h.keep hb1).more hb1.size) hE)
  obtain ⟨b, hb⟩ : ∃ b, inB l 0 4 = b := ⟨_, rfl⟩
  have HIN := Lib.hid (fun W => within_any l 0 4 W hb)
  have HV : Hid (levelG g l = if E = 0 then (if b = true then 0 else 1) else E) := by show _ = _; unfold levelG; rw [hE, hb]
  unfold gridC at HCK ⊢
  clear h hb1 hE hb
  by_cases hz : E = 0
  · subst hz
    cases b
    all_goals
      go_enter Try.func79, Try.ntmps79
      go_wp2_with (first
        | (go_at_call 35; refine HCK.out.mono ?_; rintro e w2 ⟨rfl, hb2⟩; have HB2 := Lib.hid hb2; clear hb2)
        | (go_at_call 69; refine (HIN.out _).mono ?_; rintro e w3 ⟨rfl, rfl⟩))
      go_ret
      exact ⟨by rw [HV.out]; rfl, HB1.out.trans (HB2.out.mono HB1.out.size)⟩
  · have hz' : (E != 0) = true := by simpa using hz
    have HZ := Lib.hid hz
    clear hz
    go_enter Try.func79, Try.ntmps79
    go_wp2_with (go_at_call 35; refine HCK.out.mono ?_; rintro e w2 ⟨rfl, hb2⟩; have HB2 := Lib.hid hb2; clear hb2)
    go_ret
    exact ⟨by rw [HV.out, if_neg HZ.out]; rfl, HB1.out.trans (HB2.out.mono HB1.out.size)⟩
set_option maxRecDepth 100000 in
set_option maxHeartbeats 4000000 in
theorem leveled_any (g : MGrid) (A1 A2 A3 : Option Addr) (c1 c2 c3 : Nat) (l : Int) (w : World) (h : GridA w w.heap.size g A1 A2 A3) :
    Calls Try.prog 82 #[.agg (gridC g A1 A2 A3 c1 c2 c3), .int .i64 l] w fun e w' => e = .returned (.int .i64 (levelG g l)) ∧ Below w.heap.size w w' := by
  obtain ⟨E, hE⟩ : ∃ E, checkG g = E := ⟨_, rfl⟩
  have hb1 : Below w.heap.size w (w.alloc (.cells #[.int .i64 g.nodes, .slice A1 g.lines.length c1, .slice A2 g.srcs.length c2, .slice A3 g.users.length c3] 26)) := (Below.refl _ _).alloc (Nat.le_refl _) _
  have HB1 := Lib.hid hb1
  have HCK := Lib.hid (rcheck_any g A1 A2 A3 c1 c2 c3 _ ((h.keep hb1).more hb1.size) hE)
  obtain ⟨b, hb⟩ : ∃ b, inB l 0 4 = b := ⟨_, rfl⟩
  have HIN := Lib.hid (fun W => from_any l 0 4 W hb)
  have HV : Hid (levelG g l = if E = 0 then (if b = true then 0 else 1) else E) := by show _ = _; unfold levelG; rw [hE, hb]
  unfold gridC at HCK ⊢
  clear h hb1 hE hb
  by_cases hz : E = 0
  · subst hz
    cases b
    all_goals
      go_enter Try.func82, Try.ntmps82
      go_wp2_with (first
        | (go_at_call 36; refine HCK.out.mono ?_; rintro e w2 ⟨rfl, hb2⟩; have HB2 := Lib.hid hb2; clear hb2)
        | (go_at_call 71; refine (HIN.out _).mono ?_; rintro e w3 ⟨rfl, rfl⟩))
      go_ret
      exact ⟨by rw [HV.out]; rfl, HB1.out.trans (HB2.out.mono HB1.out.size)⟩
  · have hz' : (E != 0) = true := by simpa using hz
    have HZ := Lib.hid hz
    clear hz
    go_enter Try.func82, Try.ntmps82
    go_wp2_with (go_at_call 36; refine HCK.out.mono ?_; rintro e w2 ⟨rfl, hb2⟩; have HB2 := Lib.hid hb2; clear hb2)
    go_ret
    exact ⟨by rw [HV.out, if_neg HZ.out]; rfl, HB1.out.trans (HB2.out.mono HB1.out.size)⟩
end Go.Proofs.Ytegclodchhcbaaa

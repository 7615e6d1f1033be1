/- Walks: ignitionlaw04.BusDelays. -/
import Derived.Test.YtlbbhlkbhegegaaW2
import Derived.Test.YtlbbhlkbhegegaaN10
import Derived.Test.YtlbbhlkbhegegaaDelEq
import Derived.Test.YtlbbhlkbhegegaaQb
namespace Go.Proofs.Ytlbbhlkbhegegaa
open Go.RowKit

/-- what Delays answers: waits, delays, error -/
def delOut (n : MNet) : List Int × List Int × Int :=
  if checkS n ≠ 0 then ([], [], checkS n) else
  match orderS n with
  | none => ([], [], 0)
  | some l => match delI n l (burst0 n) (fun _ => 0) (fun _ => 0) with
    | none => ([], [], 41)
    | some (W, D) => ((List.range n.gates.length).map W, (List.range n.flows.length).map D, 0)
def RetD (w : World) (p : List Int × List Int × Int) (e : Ending) (w' : World) : Prop :=
  Below w.heap.size w w' ∧ ∃ A1 k1 A2 k2, e = .returned (.tuple #[.slice A1 p.1.length k1, .slice A2 p.2.1.length k2, .int .i64 p.2.2]) ∧ IntsA w' w'.heap.size A1 p.1 ∧ IntsA w' w'.heap.size A2 p.2.1
theorem IntsA.nil (w : World) (B : Nat) (A : Option Addr) : IntsA w B A [] := ⟨Nat.zero_le _, fun h => by simp at h⟩
theorem own_map {w : World} {g n : Nat} {F : Nat → Int} (h : OwnF w g 3 n (fun j => .int .i64 (F j))) (hn : n ≤ 1000000) : IntsA w w.heap.size (some ⟨g, 0, none⟩) ((List.range n).map F) := by
  have hl : ((List.range n).map F).length = n := by simp
  refine OwnF.ints (T := 3) ?_ (by rw [hl]; unfold maxLen; omega)
  rw [hl]
  exact h.congr fun j hj => by simp [List.getD_eq_getElem?_getD, hj]
theorem retD_of {n : MNet} {w w' : World} {e : Ending} {res : List Int → Option ((Nat → Int) × (Nat → Int))} (hr : ∀ l, checkS n = 0 → orderS n = some l → res l = delI n l (burst0 n) (fun _ => 0) (fun _ => 0)) (h : DelPost n res w e w') : RetD w (delOut n) e w' := by
  obtain ⟨hb, h⟩ := h
  refine ⟨hb, ?_⟩
  rcases h with ⟨hc, rfl⟩ | ⟨hc, l, hl, h⟩
  · have e1 : delOut n = ([], [], checkS n) := by unfold delOut; rw [if_pos hc]
    rw [e1]
    exact ⟨none, 0, none, 0, rfl, IntsA.nil _ _ _, IntsA.nil _ _ _⟩
  · have h1 := hr l hc hl
    rcases h with ⟨h2, rfl⟩ | ⟨W, D, gw, gd, h2, rfl, _, _, hW, hD⟩
    · have e1 : delOut n = ([], [], 41) := by
        unfold delOut
        rw [if_neg (by simpa using hc), hl]
        simp only [← h1, h2]
      rw [e1]
      exact ⟨none, 0, none, 0, rfl, IntsA.nil _ _ _, IntsA.nil _ _ _⟩
    · have e1 : delOut n = ((List.range n.gates.length).map W, (List.range n.flows.length).map D, 0) := by
        unfold delOut
        rw [if_neg (by simpa using hc), hl]
        simp only [← h1, h2]
      have hv := check_parts hc
      have hn := netB_len hv.1
      rw [e1]
      refine ⟨some ⟨gw, 0, none⟩, n.gates.length, some ⟨gd, 0, none⟩, n.flows.length, ?_, own_map hW (by omega), own_map hD (by omega)⟩
      simp
theorem delays_out (A1 A2 : Option Addr) (c1 c2 : Nat) (n : MNet) (w : World) (h : NetA w w.heap.size A1 A2 n) {p : List Int × List Int × Int} (hp : delOut n = p) :
    Calls Try.prog 19 #[.agg #[.slice A1 n.gates.length c1, .slice A2 n.flows.length c2]] w (RetD w p) := by
  subst hp
  by_cases hc : checkS n = 0
  · exact (delays_any A1 A2 c1 c2 n w h hc).mono fun e w' hp => retD_of (fun _ _ _ => rfl) hp
  · exact (delays_err A1 A2 c1 c2 n w h (fun _ => none) hc).mono fun e w' hp => retD_of (fun _ h0 _ => absurd h0 hc) hp
theorem rdelays_out (A1 A2 : Option Addr) (c1 c2 : Nat) (n : MNet) (w : World) (h : NetA w w.heap.size A1 A2 n) {p : List Int × List Int × Int} (hp : delOut n = p) :
    Calls Try.prog 20 #[.agg #[.slice A1 n.gates.length c1, .slice A2 n.flows.length c2]] w (RetD w p) := by
  subst hp
  by_cases hc : checkS n = 0
  · exact (rdelays_any A1 A2 c1 c2 n w h hc).mono fun e w' hp => retD_of (fun l h0 hl => (del_eq (check_parts h0).1 hl _ _).symm) hp
  · exact (rdelays_err A1 A2 c1 c2 n w h (fun _ => none) hc).mono fun e w' hp => retD_of (fun _ h0 _ => absurd h0 hc) hp

set_option maxRecDepth 100000 in
set_option maxHeartbeats 2000000 in
theorem busDelays_any (A1 A2 : Option Addr) (c1 c2 : Nat) (n : MNet) (w : World) (h : NetA w w.heap.size A1 A2 n) :
    Calls Try.prog 3 #[.agg #[.slice A1 n.gates.length c1, .slice A2 n.flows.length c2]] w fun e w' => e = .returned (.bool true) ∧ Below w.heap.size w w' := by
  have hE := NetEnv.make (c1 := c1) (c2 := c2) (t := 25) h
  clear h
  obtain ⟨r, hr⟩ : ∃ r, checkS n = r := ⟨_, rfl⟩
  obtain ⟨⟨x, a, c⟩, hp⟩ : ∃ p, delOut n = p := ⟨_, rfl⟩
  have HP := Lib.hid hp
  have hrr : (r != r) = false := by simp
  have HC1 : Hid (∀ w1, NetEnv w w.heap.size A1 c1 A2 c2 n w1 → Calls Try.prog 17 #[.agg #[.slice A1 n.gates.length c1, .slice A2 n.flows.length c2]] w1 fun e w' => e = .returned (.int .i64 r) ∧ Below w1.heap.size w1 w') := fun w1 h1 => check_b _ _ _ _ n r w1 (h1.net.more (Nat.le_of_lt h1.size)) hr
  have HC2 : Hid (∀ w1, NetEnv w w.heap.size A1 c1 A2 c2 n w1 → Calls Try.prog 18 #[.agg #[.slice A1 n.gates.length c1, .slice A2 n.flows.length c2]] w1 fun e w' => e = .returned (.int .i64 r) ∧ Below w1.heap.size w1 w') := fun w1 h1 => rcheck_b _ _ _ _ n r w1 (h1.net.more (Nat.le_of_lt h1.size)) hr
  clear hp hr
  go_enter Try.func3, Try.ntmps3
  go_wp2_with fail
  generalize hW : w.alloc (.cells #[.slice A1 n.gates.length c1, .slice A2 n.flows.length c2] 25) = w1 at *
  clear hW
  have m0 := BW.cell (B := w1.heap.size) hE.size hE.c0
  have m1 := BW.cell (B := w1.heap.size) hE.size hE.c1
  have HD1 : Hid (∀ s : BW w1.heap.size w1, Calls Try.prog 17 #[.agg #[.slice A1 n.gates.length c1, .slice A2 n.flows.length c2]] s.1 fun e w' => e = .returned (.int .i64 r) ∧ Below s.1.heap.size s.1 w') := fun s => HC1.out _ (hE.below s.2 hE.size)
  have HD2 : Hid (∀ s : BW w1.heap.size w1, Calls Try.prog 18 #[.agg #[.slice A1 n.gates.length c1, .slice A2 n.flows.length c2]] s.1 fun e w' => e = .returned (.int .i64 r) ∧ Below s.1.heap.size s.1 w') := fun s => HC2.out _ (hE.below s.2 hE.size)
  refine wp_region_below w1.heap.size w1 (Below.refl _ _) (by kernel_rfl) (by kernel_rfl) ?_
  repeat (go_big_quiet_step (first | (go_at_call 17; exact quiet_below (Nat.le_refl _) (HD1.out _)) | (go_at_call 18; exact quiet_below (Nat.le_refl _) (HD2.out _))))
  refine wpQuiet_nil ?_
  clear m0 m1 HD1 HD2 HC1 HC2
  intro s
  have hE2 := hE.below s.2 hE.size
  generalize hs : s.1 = w2 at *
  clear hE hs s
  have q0 := hE2.c0
  have q1 := hE2.c1
  have HC : Hid (∀ w1, NetEnv w w.heap.size A1 c1 A2 c2 n w1 → Calls Try.prog 19 #[.agg #[.slice A1 n.gates.length c1, .slice A2 n.flows.length c2]] w1 (RetD w1 (x, a, c))) := fun w1 h1 => delays_out _ _ _ _ n w1 (h1.net.more (Nat.le_of_lt h1.size)) HP.out
  have HC' : Hid (∀ w1, NetEnv w w.heap.size A1 c1 A2 c2 n w1 → Calls Try.prog 20 #[.agg #[.slice A1 n.gates.length c1, .slice A2 n.flows.length c2]] w1 (RetD w1 (x, a, c))) := fun w1 h1 => rdelays_out _ _ _ _ n w1 (h1.net.more (Nat.le_of_lt h1.size)) HP.out
  have hcc : (c == c) = true := by simp
  have s1 : Hid (sameL x x = true) := by unfold sameL; exact decide_eq_true rfl
  have s2 : Hid (sameL a a = true) := by unfold sameL; exact decide_eq_true rfl
  go_wp2_with fail
  refine (HC.out _ hE2).mono ?_
  rintro e w3 ⟨hb3, X, xk, D, dk, rfl, hX, hD⟩
  have hE3 := hE2.below hb3 hE2.size
  clear hE2 hb3 q0 q1
  have q0 := hE3.c0
  have q1 := hE3.c1
  go_wp2_with fail
  refine (HC'.out _ hE3).mono ?_
  rintro e w4 ⟨hb4, X', xk', D', dk', rfl, hX', hD'⟩
  have hE4 := hE3.below hb4 hE3.size
  have hX4 := hX.below hb4 (Nat.le_refl _)
  have hD4 := hD.below hb4 (Nat.le_refl _)
  have hs4 := hb4.size
  have hsz := hE4.size
  have hb := hE4.old
  clear hE3 hE4 hb4 q0 q1 hX hD HC HC'
  have hc1 := same_b (cap := xk) (cap' := xk') hX4 hX' rfl rfl s1.out
  go_wp2_with fail
  refine hc1.mono ?_
  rintro e w5 ⟨rfl, hb5⟩
  have hD5 := hD4.below (hb5.mono hs4) (Nat.le_refl _)
  have hD5' := hD'.below hb5 (Nat.le_refl _)
  have hb6 := hb.trans (hb5.mono (by omega))
  have hs5 := hb5.size
  clear hc1 hX4 hX' hD4 hD' hb hb5
  have hc1 := same_b (cap := dk) (cap' := dk') hD5 hD5' rfl rfl s2.out
  go_wp2_with fail
  refine hc1.mono ?_
  rintro e w6 ⟨rfl, hb7⟩
  have hb8 := hb6.trans (hb7.mono (by omega))
  have hs6 := hb7.size
  clear hc1 hD5 hD5' hb6 hb7
  have hc1 := works_any w6
  go_wp2_with fail
  refine hc1.mono ?_
  rintro e w7 ⟨rfl, hb9⟩
  have hb10 := hb8.trans (hb9.mono (by omega))
  clear hc1 hb8 hb9
  go_wp2_with fail
  go_ret
  exact ⟨rfl, hb10⟩
end Go.Proofs.Ytlbbhlkbhegegaa

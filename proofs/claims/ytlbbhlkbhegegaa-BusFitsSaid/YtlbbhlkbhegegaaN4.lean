/- Walks: bus.waits. -/
import Derived.Test.YtlbbhlkbhegegaaN1
import Derived.Test.YtlbbhlkbhegegaaOrd
import Derived.Test.YtlbbhlkbhegegaaOwn
namespace Go.Proofs.Ytlbbhlkbhegegaa
open Go.RowKit

theorem index_b (A : Option Addr) (n cap : Nat) (l : List Int) (x r : Int) (w : World) (B : Nat) (h : IntsA w B A l) (hn : n = l.length) (hr : idxI l x = r) :
    Calls Try.prog 61 #[.slice A n cap, .int .i64 x] w fun e w' => e = .returned (.int .i64 r) ∧ w = w' := hr ▸ index_any A n cap l x w B h hn

set_option maxHeartbeats 1000000 in
theorem waits_any (A1 A2 : Option Addr) (c1 c2 : Nat) (n : MNet) (w : World) (h : NetA w w.heap.size A1 A2 n) (hv : netB n = true) (g : Int) (out : List Int) (bd : Nat)
    (hd : OwnF w bd 4 n.gates.length (fun j => .bool (hasI out j))) :
    Calls Try.prog 95 #[.agg #[.slice A1 n.gates.length c1, .slice A2 n.flows.length c2], .int .i64 g, .slice (some ⟨bd, 0, none⟩) n.gates.length n.gates.length] w
      fun e w' => e = .returned (.bool (!flowsReady n out g)) ∧ Below w.heap.size w w' := by
  have hl1 := h.1
  have hl2 := h.2.1
  unfold maxLen at hl1 hl2
  have hbd := hd.lt
  go_enter Try.func95, Try.ntmps95
  go_wp2
  have hE := NetEnv.make (c1 := c1) (c2 := c2) (t := 25) h
  have hd := hd.alloc (Obj.cells #[.slice A1 n.gates.length c1, .slice A2 n.flows.length c2] 25)
  generalize hW : World.alloc w _ = w1 at *
  clear hW h
  go_loopw [13] (fun i wr => ∃ k : Nat, k ≤ n.flows.length ∧ i = .int .i64 k ∧ (∀ j f, j < k → n.flows[j]? = some f → stepB out g f.path = true) ∧ NetEnv w w.heap.size A1 c1 A2 c2 n wr ∧ OwnF wr bd 4 n.gates.length (fun j => .bool (hasI out j))) (fun i _ => n.flows.length - (intOf i).toNat)
  case atStart => exact ⟨0, Nat.zero_le _, rfl, by omega, hE, hd⟩
  case round =>
    clear hE hd
    obtain ⟨k, hk, rfl, hok, hE, hd⟩ := hrel
    have HOK := Lib.hid hok
    clear hok
    have hsz := hE.size
    by_cases hlt : k < n.flows.length
    · obtain ⟨f, b, off, Ap, cp, hf, rfl, hb, hc0, hc1, hc2, hcp, hp⟩ := hE.net.2.2.2.at_ hlt
      have hpl := hp.1
      unfold maxLen at hpl
      have hpb := (netB_flow hv hf).2.2
      have HPB := Lib.hid hpb
      have HFl := Lib.hid hf
      clear hf hpb hv
      have hb1 : Below (w.heap.size + 1) wr (wr.alloc (.cells #[.int .i64 f.burst, .int .i64 f.rate, .slice Ap f.path.length cp] 47)) := (Below.refl _ _).alloc (by omega) _
      have hE1 := hE.below hb1 (Nat.lt_succ_self _)
      have hp1 := hp.below (hb1.mono (B' := w.heap.size) (by omega)) (Nat.le_refl _)
      have hd1 := hd.below hb1 (by omega)
      have n2 := newcell wr #[.int .i64 f.burst, .int .i64 f.rate, .slice Ap f.path.length cp] 47 2
      simp only [List.getElem?_toArray, List.getElem?_cons_succ, List.getElem?_cons_zero] at n2
      rcases idxI_cases f.path g with ⟨hi, hne⟩ | ⟨m, hi, hm, hat, hne⟩
      · have HI := Lib.hid hi
        have HS := Lib.hid (stepB_skip (out := out) (g := g) (p := f.path) fun j _ hj => hne j hj)
        clear hi hne
        go_wp2_with (go_at_call 61; refine (index_b _ _ _ f.path g _ _ _ hp1 rfl HI.out).mono ?_; rintro e w' ⟨rfl, rfl⟩)
        go_roundw
        case rel => exact ⟨k + 1, by omega, by go_num, upto_snoc HOK.out HFl.out HS.out, hE1, hd1⟩
        case measure => simp [intOf]; omega
      · have HNE := Lib.hid hne
        have HAT := Lib.hid hat
        clear hne hat
        match m, hi, hm, HNE, HAT with
        | 0, hi, hm, HNE, HAT =>
          have HI := Lib.hid hi
          have HS := Lib.hid (stepB_skip (out := out) (g := g) (p := f.path) fun j h0 hj => by rw [← HAT.out]; exact fun e => hop_distinct HPB.out h0 hj e.symm)
          clear hi
          go_wp2_with (go_at_call 61; refine (index_b _ _ _ f.path g 0 _ _ hp1 rfl HI.out).mono ?_; rintro e w' ⟨rfl, rfl⟩)
          go_roundw
          case rel => exact ⟨k + 1, by omega, by go_num, upto_snoc HOK.out HFl.out HS.out, hE1, hd1⟩
          case measure => simp [intOf]; omega
        | m + 1, hi, hm, HNE, HAT =>
          have HI : Hid (idxI f.path g = (m : Int) + 1) := by rw [hi]; show _ = _; omega
          clear hi
          obtain ⟨pb, po, rfl, hpb2, hpc⟩ := hp1.at_ (k := m) (by omega)
          obtain ⟨v, hv, hvG⟩ := hop_range HPB.out (k := m) (by omega)
          have HS := Lib.hid (stepB_at (out := out) HPB.out hm HAT.out)
          rw [hv] at hpc
          have HV := Lib.hid hv
          clear hv
          have hdc := hd1.cell hvG
          rcases ho : hasI out (v : Int)
          all_goals
            rw [ho] at hdc
            have HO := Lib.hid ho
            clear ho
            go_wp2_with (go_at_call 61; refine (index_b _ _ _ f.path g _ _ _ hp1 rfl HI.out).mono ?_; rintro e w' ⟨rfl, rfl⟩)
          · go_ret
            exact ⟨ret_b (by unfold flowsReady; rw [all_no HFl.out (by rw [HS.out, HV.out]; exact HO.out)]; rfl), hE1.old⟩
          · go_roundw
            case rel => exact ⟨k + 1, by omega, by go_num, upto_snoc HOK.out HFl.out (by rw [HS.out, HV.out]; exact HO.out), hE1, hd1⟩
            case measure => simp [intOf]; omega
    · have HA := Lib.hid (all_yes (p := fun f : MFlow => stepB out g f.path) (l := n.flows) fun j g hj hg => HOK.out j g (by omega) hg)
      clear HOK
      go_wp2
      go_ret
      exact ⟨ret_b (by unfold flowsReady; rw [HA.out]; rfl), hE.old⟩
theorem waits_b (A1 A2 : Option Addr) (c1 c2 : Nat) (n : MNet) (w : World) (h : NetA w w.heap.size A1 A2 n) (hv : netB n = true) (g : Int) (out : List Int) (bd : Nat) (b : Bool)
    (hd : OwnF w bd 4 n.gates.length (fun j => .bool (hasI out j))) (hb : flowsReady n out g = b) :
    Calls Try.prog 95 #[.agg #[.slice A1 n.gates.length c1, .slice A2 n.flows.length c2], .int .i64 g, .slice (some ⟨bd, 0, none⟩) n.gates.length n.gates.length] w
      fun e w' => e = .returned (.bool (!b)) ∧ Below w.heap.size w w' := hb ▸ waits_any A1 A2 c1 c2 n w h hv g out bd hd
end Go.Proofs.Ytlbbhlkbhegegaa

/- Walks: valid nets, the order of the gates, CheckNet. -/
import Derived.Test.YtlbbhlkbhegegaaN1
import Derived.Test.YtlbbhlkbhegegaaOrd
import Derived.Test.YtlbbhlkbhegegaaOwn
import Derived.Test.YtlbbhlkbhegegaaLaws
import Derived.Test.YtlbbhlkbhegegaaChk
/- Walks: bus.valid and its reference. -/
namespace Go.Proofs.Ytlbbhlkbhegegaa
open Go.RowKit

set_option maxHeartbeats 1000000 in
theorem valid_any (A1 A2 : Option Addr) (c1 c2 : Nat) (n : MNet) (w : World) (h : NetA w w.heap.size A1 A2 n) :
    Calls Try.prog 54 #[.agg #[.slice A1 n.gates.length c1, .slice A2 n.flows.length c2]] w fun e w' => e = .returned (.bool (netB n)) ∧ Below w.heap.size w w' := by
  have hl1 := h.1
  have hl2 := h.2.1
  unfold maxLen at hl1 hl2
  by_cases hlim : 30 < n.gates.length ∨ 40 < n.flows.length
  · have HF := Lib.hid (netB_no1 hlim)
    go_enter Try.func54, Try.ntmps54
    rcases hlim with hlim | hlim
    · go_wp2
      go_ret
      exact ⟨ret_b HF.out.symm, (Below.refl _ _).alloc (Nat.le_refl _) _⟩
    · by_cases h1 : 30 < n.gates.length
      all_goals
        go_wp2
        go_ret
        exact ⟨ret_b HF.out.symm, (Below.refl _ _).alloc (Nat.le_refl _) _⟩
  have hg30 : n.gates.length ≤ 30 := by omega
  have hf40 : n.flows.length ≤ 40 := by omega
  clear hlim
  go_enter Try.func54, Try.ntmps54
  go_wp2
  have hE := NetEnv.make (c1 := c1) (c2 := c2) (t := 25) h
  generalize hW : World.alloc w _ = w1 at *
  clear hW h
  go_loopw [22] (fun i wr => ∃ k : Nat, k ≤ n.gates.length ∧ i = .int .i64 k ∧ (∀ j g, j < k → n.gates[j]? = some g → gateB g = true) ∧ NetEnv w w.heap.size A1 c1 A2 c2 n wr) (fun i _ => n.gates.length - (intOf i).toNat)
  case atStart => exact ⟨0, Nat.zero_le _, rfl, by omega, hE⟩
  case round =>
    clear hE
    obtain ⟨k, hk, rfl, hok, hE⟩ := hrel
    have HOK := Lib.hid hok
    clear hok
    have hsz := hE.size
    have q0 := hE.c0
    have q1 := hE.c1
    by_cases hlt : k < n.gates.length
    · obtain ⟨g, b, off, hg, rfl, hb, hc0, hc1⟩ := hE.net.2.2.1.at_ hlt
      have HG := Lib.hid hg
      clear hg
      have hb1 : Below (w.heap.size + 1) wr (wr.alloc (.cells #[.int .i64 g.rate, .int .i64 g.delay] 74)) := (Below.refl _ _).alloc (by omega) _
      have hE1 := hE.below hb1 (Nat.lt_succ_self _)
      rcases hi1 : inB g.rate 1 10000 <;> rcases hi2 : inB g.delay 1 1000
      all_goals
        have H1 := Lib.hid hi1
        have H2 := Lib.hid hi2
        clear hi1 hi2
        go_wp2_with (first | (go_at_call 67; (with_reducible refine (within_b g.rate _ _ _ _ H1.out).mono ?_); rintro e w' ⟨rfl, rfl⟩) | (go_at_call 67; (with_reducible refine (within_b g.delay _ _ _ _ H2.out).mono ?_); rintro e w' ⟨rfl, rfl⟩))
      rotate_left 3
      · go_roundw
        case rel => exact ⟨k + 1, by omega, by go_num, upto_snoc HOK.out HG.out (by unfold gateB; rw [H1.out, H2.out]; rfl), hE1⟩
        case measure => simp [intOf]; omega
      all_goals
        go_ret
        exact ⟨ret_b (netB_no2 (all_no HG.out (by unfold gateB; rw [H1.out, H2.out]; rfl))).symm, hE1.old⟩
    · have HA := Lib.hid (all_yes (p := gateB) (l := n.gates) fun j g hj hg => HOK.out j g (by omega) hg)
      clear HOK
      go_wp2
      generalize hW : wr = w1 at *
      clear hW q0 q1
      go_loopw [40] (fun i wr => ∃ k : Nat, k ≤ n.flows.length ∧ i = .int .i64 k ∧ (∀ j f, j < k → n.flows[j]? = some f → flowOkB n.gates.length f = true) ∧ NetEnv w w.heap.size A1 c1 A2 c2 n wr) (fun i _ => n.flows.length - (intOf i).toNat)
      case atStart => exact ⟨0, Nat.zero_le _, rfl, by omega, hE⟩
      case round =>
        clear hE hsz
        obtain ⟨k, hk, rfl, hok, hE⟩ := hrel
        have HOK := Lib.hid hok
        clear hok
        have hsz := hE.size
        have q0 := hE.c0
        have q1 := hE.c1
        by_cases hlt : k < n.flows.length
        · obtain ⟨f, b, off, Ap, cp, hf, rfl, hb, hc0, hc1, hc2, hcp, hp⟩ := hE.net.2.2.2.at_ hlt
          have hpl := hp.1
          unfold maxLen at hpl
          have HFl := Lib.hid hf
          clear hf
          have hb1 : Below (w.heap.size + 1) wr (wr.alloc (.cells #[.int .i64 f.burst, .int .i64 f.rate, .slice Ap f.path.length cp] 47)) := (Below.refl _ _).alloc (by omega) _
          have hE1 := hE.below hb1 (Nat.lt_succ_self _)
          have hp1 := hp.below (hb1.mono (B' := w.heap.size) (by omega)) (Nat.le_refl _)
          have n0 := newcell wr #[.int .i64 f.burst, .int .i64 f.rate, .slice Ap f.path.length cp] 47 0
          have n2 := newcell wr #[.int .i64 f.burst, .int .i64 f.rate, .slice Ap f.path.length cp] 47 2
          have hs1 : (wr.alloc (.cells #[.int .i64 f.burst, .int .i64 f.rate, .slice Ap f.path.length cp] 47)).heap.size = wr.heap.size + 1 := by simp
          simp only [List.getElem?_toArray, List.getElem?_cons_succ, List.getElem?_cons_zero] at n0 n2
          rcases hi1 : flowB f.burst f.rate <;> rcases hi2 : inB (f.path.length : Int) 1 8
          all_goals
            have H1 := Lib.hid hi1
            have H2 := Lib.hid hi2
            have HS1 := Lib.hid hs1
            clear hi1 hi2 hs1
            go_wp2_with (first | (go_at_call 67; (with_reducible refine (within_b (f.path.length : Int) _ _ _ _ H2.out).mono ?_); rintro e w' ⟨rfl, rfl⟩) | (go_at_call 84; refine (poured_b _ _ _ _ _ H1.out).mono ?_; rintro e w2 ⟨rfl, hb2⟩; have q2 := (bcell hb2 wr.heap.size 2 (by simp)).trans n2; have hE2 := hE1.below hb2 (by simp; omega); have q20 := hE2.c0; have hs2 := hb2.size; have hp2 := hp1.below hb2 (by simp; omega)))
          rotate_left 3
          · clear hE1 hb1 hp1 n0 n2 hp hc0 hc1 hc2 q0 q1 hE
            go_loop [57] (fun i => ∃ m : Nat, m ≤ f.path.length ∧ i = .int .i64 m ∧ ∀ j, j < m → hopB n.gates.length f.path j = true) (fun i => f.path.length - (intOf i).toNat)
            case atStart => exact ⟨0, Nat.zero_le _, rfl, by omega⟩
            case round =>
              obtain ⟨m, hm, rfl, hops⟩ := hrel
              have HOPS := Lib.hid hops
              clear hops
              by_cases hlm : m < f.path.length
              · obtain ⟨pb, po, rfl, hpb, hpc⟩ := hp2.at_ hlm
                have hpt := hp2.take m
                have HTL : Hid (m = (f.path.take m).length) := by rw [List.length_take]; show m = _; omega
                have HOP : Hid (hopB n.gates.length f.path m = (inB (f.path.getD m 0) 0 ((n.gates.length : Int) - 1) && !hasI (f.path.take m) (f.path.getD m 0))) := rfl
                generalize hx : f.path.getD m 0 = x at *
                clear hx
                rcases hj1 : inB x 0 ((n.gates.length : Int) - 1) <;> rcases hj2 : hasI (f.path.take m) x
                all_goals
                  have J1 := Lib.hid hj1
                  have J2 := Lib.hid hj2
                  clear hj1 hj2
                  go_wp2_with (first | (go_at_call 67; refine (within_b x _ _ _ _ J1.out).mono ?_; rintro e w' ⟨rfl, rfl⟩) | (go_at_call 56; refine (contains_b _ _ _ _ x _ _ _ hpt HTL.out J2.out).mono ?_; rintro e w' ⟨rfl, rfl⟩))
                rotate_left 2
                · go_round
                  case rel => exact ⟨m + 1, by omega, by go_num, nat_snoc HOPS.out (by rw [HOP.out, J1.out, J2.out]; rfl)⟩
                  case measure => simp [intOf]; omega
                all_goals
                  go_ret
                  exact ⟨ret_b (netB_no3 (all_no HFl.out (by unfold flowOkB; rw [show pathB n.gates.length f.path = false from range_no hlm (by rw [HOP.out, J1.out, J2.out]; rfl)]; simp))).symm, hE2.old⟩
              · have HP := Lib.hid (range_yes (p := hopB n.gates.length f.path) (n := f.path.length) fun j hj => HOPS.out j (by omega))
                clear HOPS
                go_wp2
                go_roundw
                case rel => exact ⟨k + 1, by omega, by go_num, upto_snoc HOK.out HFl.out (by unfold flowOkB; rw [H1.out, H2.out, show pathB n.gates.length f.path = true from HP.out]; rfl), hE2⟩
                case measure => simp [intOf]; omega
          all_goals
            go_ret
            exact ⟨ret_b (netB_no3 (all_no HFl.out (by unfold flowOkB; rw [H1.out, H2.out]; rfl))).symm, hE2.old⟩
        · have HA2 := Lib.hid (all_yes (p := flowOkB n.gates.length) (l := n.flows) fun j g hj hg => HOK.out j g (by omega) hg)
          clear HOK
          go_wp2
          go_ret
          exact ⟨ret_b (netB_yes hg30 hf40 HA.out HA2.out).symm, hE.old⟩
end Go.Proofs.Ytlbbhlkbhegegaa

/- Walks: bus.waits. -/
namespace Go.Proofs.Ytlbbhlkbhegegaa
open Go.RowKit

theorem index_b (A : Option Addr) (n cap : Nat) (l : List Int) (x r : Int) (w : World) (B : Nat) (h : IntsA w B A l) (hn : n = l.length) (hr : idxI l x = r) :
    Calls Try.prog 61 #[.slice A n cap, .int .i64 x] w fun e w' => e = .returned (.int .i64 r) ∧ w = w' := hr ▸ index_any A n cap l x w B h hn

set_option maxHeartbeats 1000000 in
theorem waits_any (A1 A2 : Option Addr) (c1 c2 : Nat) (n : MNet) (w : World) (h : NetA w w.heap.size A1 A2 n) (hv : netB n = true) (g : Int) (out : List Int) (bd : Nat)
    (hd : OwnF w bd 4 n.gates.length (fun j => .bool (hasI out j))) :
    Calls Try.prog 95 #[.agg #[.slice A1 n.gates.length c1, .slice A2 n.flows.length c2], .int .i64 g, .slice (some ⟨bd, 0, none⟩) n.gates.length n.gates.length] w
      fun e w' => e = .returned (.bool (!flowsReady n out g)) ∧ Below w.heap.size w w' := by
  have hl1 := h.1
  have hl2 := h.2.1
  unfold maxLen at hl1 hl2
  have hbd := hd.lt
  go_enter Try.func95, Try.ntmps95
  go_wp2
  have hE := NetEnv.make (c1 := c1) (c2 := c2) (t := 25) h
  have hd := hd.alloc (Obj.cells #[.slice A1 n.gates.length c1, .slice A2 n.flows.length c2] 25)
  generalize hW : World.alloc w _ = w1 at *
  clear hW h
  go_loopw [13] (fun i wr => ∃ k : Nat, k ≤ n.flows.length ∧ i = .int .i64 k ∧ (∀ j f, j < k → n.flows[j]? = some f → stepB out g f.path = true) ∧ NetEnv w w.heap.size A1 c1 A2 c2 n wr ∧ OwnF wr bd 4 n.gates.length (fun j => .bool (hasI out j))) (fun i _ => n.flows.length - (intOf i).toNat)
  case atStart => exact ⟨0, Nat.zero_le _, rfl, by omega, hE, hd⟩
  case round =>
    clear hE hd
    obtain ⟨k, hk, rfl, hok, hE, hd⟩ := hrel
    have HOK := Lib.hid hok
    clear hok
    have hsz := hE.size
    by_cases hlt : k < n.flows.length
    · obtain ⟨f, b, off, Ap, cp, hf, rfl, hb, hc0, hc1, hc2, hcp, hp⟩ := hE.net.2.2.2.at_ hlt
      have hpl := hp.1
      unfold maxLen at hpl
      have hpb := (netB_flow hv hf).2.2
      have HPB := Lib.hid hpb
      have HFl := Lib.hid hf
      clear hf hpb hv
      have hb1 : Below (w.heap.size + 1) wr (wr.alloc (.cells #[.int .i64 f.burst, .int .i64 f.rate, .slice Ap f.path.length cp] 47)) := (Below.refl _ _).alloc (by omega) _
      have hE1 := hE.below hb1 (Nat.lt_succ_self _)
      have hp1 := hp.below (hb1.mono (B' := w.heap.size) (by omega)) (Nat.le_refl _)
      have hd1 := hd.below hb1 (by omega)
      have n2 := newcell wr #[.int .i64 f.burst, .int .i64 f.rate, .slice Ap f.path.length cp] 47 2
      simp only [List.getElem?_toArray, List.getElem?_cons_succ, List.getElem?_cons_zero] at n2
      rcases idxI_cases f.path g with ⟨hi, hne⟩ | ⟨m, hi, hm, hat, hne⟩
      · have HI := Lib.hid hi
        have HS := Lib.hid (stepB_skip (out := out) (g := g) (p := f.path) fun j _ hj => hne j hj)
        clear hi hne
        go_wp2_with (go_at_call 61; refine (index_b _ _ _ f.path g _ _ _ hp1 rfl HI.out).mono ?_; rintro e w' ⟨rfl, rfl⟩)
        go_roundw
        case rel => exact ⟨k + 1, by omega, by go_num, upto_snoc HOK.out HFl.out HS.out, hE1, hd1⟩
        case measure => simp [intOf]; omega
      · have HNE := Lib.hid hne
        have HAT := Lib.hid hat
        clear hne hat
        match m, hi, hm, HNE, HAT with
        | 0, hi, hm, HNE, HAT =>
          have HI := Lib.hid hi
          have HS := Lib.hid (stepB_skip (out := out) (g := g) (p := f.path) fun j h0 hj => by rw [← HAT.out]; exact fun e => hop_distinct HPB.out h0 hj e.symm)
          clear hi
          go_wp2_with (go_at_call 61; refine (index_b _ _ _ f.path g 0 _ _ hp1 rfl HI.out).mono ?_; rintro e w' ⟨rfl, rfl⟩)
          go_roundw
          case rel => exact ⟨k + 1, by omega, by go_num, upto_snoc HOK.out HFl.out HS.out, hE1, hd1⟩
          case measure => simp [intOf]; omega
        | m + 1, hi, hm, HNE, HAT =>
          have HI : Hid (idxI f.path g = (m : Int) + 1) := by rw [hi]; show _ = _; omega
          clear hi
          obtain ⟨pb, po, rfl, hpb2, hpc⟩ := hp1.at_ (k := m) (by omega)
          obtain ⟨v, hv, hvG⟩ := hop_range HPB.out (k := m) (by omega)
          have HS := Lib.hid (stepB_at (out := out) HPB.out hm HAT.out)
          rw [hv] at hpc
          have HV := Lib.hid hv
          clear hv
          have hdc := hd1.cell hvG
          rcases ho : hasI out (v : Int)
          all_goals
            rw [ho] at hdc
            have HO := Lib.hid ho
            clear ho
            go_wp2_with (go_at_call 61; refine (index_b _ _ _ f.path g _ _ _ hp1 rfl HI.out).mono ?_; rintro e w' ⟨rfl, rfl⟩)
          · go_ret
            exact ⟨ret_b (by unfold flowsReady; rw [all_no HFl.out (by rw [HS.out, HV.out]; exact HO.out)]; rfl), hE1.old⟩
          · go_roundw
            case rel => exact ⟨k + 1, by omega, by go_num, upto_snoc HOK.out HFl.out (by rw [HS.out, HV.out]; exact HO.out), hE1, hd1⟩
            case measure => simp [intOf]; omega
    · have HA := Lib.hid (all_yes (p := fun f : MFlow => stepB out g f.path) (l := n.flows) fun j g hj hg => HOK.out j g (by omega) hg)
      clear HOK
      go_wp2
      go_ret
      exact ⟨ret_b (by unfold flowsReady; rw [HA.out]; rfl), hE.old⟩
theorem waits_b (A1 A2 : Option Addr) (c1 c2 : Nat) (n : MNet) (w : World) (h : NetA w w.heap.size A1 A2 n) (hv : netB n = true) (g : Int) (out : List Int) (bd : Nat) (b : Bool)
    (hd : OwnF w bd 4 n.gates.length (fun j => .bool (hasI out j))) (hb : flowsReady n out g = b) :
    Calls Try.prog 95 #[.agg #[.slice A1 n.gates.length c1, .slice A2 n.flows.length c2], .int .i64 g, .slice (some ⟨bd, 0, none⟩) n.gates.length n.gates.length] w
      fun e w' => e = .returned (.bool (!b)) ∧ Below w.heap.size w w' := hb ▸ waits_any A1 A2 c1 c2 n w h hv g out bd hd
end Go.Proofs.Ytlbbhlkbhegegaa

/- Walks: bus.order. -/
namespace Go.Proofs.Ytlbbhlkbhegegaa
open Go.RowKit

/-- what order hands back -/
def OrderPost (n : MNet) (w : World) (e : Ending) (w' : World) : Prop :=
  ∃ v, e = .returned (.tuple #[v, .bool (orderS n).isSome]) ∧ Below w.heap.size w w' ∧ ∀ l, orderS n = some l → OutI w' w.heap.size v l

theorem order_no {n : MNet} {w w' : World} (h : orderS n = none) (hb : Below w.heap.size w w') : OrderPost n w (.returned (.tuple #[.slice none 0 0, .bool false])) w' :=
  ⟨_, by rw [h]; rfl, hb, fun l hl => by rw [h] at hl; cases hl⟩
theorem order_yes {n : MNet} {w w' : World} {v : Value} {l : List Int} (h : orderS n = some l) (hb : Below w.heap.size w w') (ho : OutI w' w.heap.size v l) : OrderPost n w (.returned (.tuple #[v, .bool true])) w' :=
  ⟨v, by rw [h]; rfl, hb, fun l' hl => by rw [h] at hl; injection hl with hl; subst hl; exact ho⟩
theorem own_ne {w : World} {base e size n g : Nat} {v : Value} {xs : List Value} (h : w.ownsRow base e size v n xs) (hg : g < base) : some g ≠ v.ownBlock := fun e => by
  have := h.lt g e.symm
  omega
set_option maxHeartbeats 2000000 in
theorem order_any (A1 A2 : Option Addr) (c1 c2 : Nat) (n : MNet) (w : World) (h : NetA w w.heap.size A1 A2 n) (hv : netB n = true) :
    Calls Try.prog 55 #[.agg #[.slice A1 n.gates.length c1, .slice A2 n.flows.length c2]] w (OrderPost n w) := by
  have hl1 := (netB_len hv).1
  have HV := Lib.hid hv
  clear hv
  go_enter Try.func55, Try.ntmps55
  have hE := NetEnv.make (c1 := c1) (c2 := c2) (t := 25) h
  go_wp2_with (at_make; refine mk_bools _ rfl _ _ rfl n.gates.length rfl rfl (by omega) ?_; intro w2 hown hb2)
  have hE2 := hE.below hb2 (by simp)
  rw [World.size_alloc] at hown
  have hsz2 : w.heap.size + 1 < w2.heap.size := hown.lt
  clear hE hb2 h
  go_loopw [2] (fun v wr => ∃ out : List Int, out.length ≤ n.gates.length ∧ orderFrom n (n.gates.length - out.length) out = orderS n ∧ OutI wr (w.heap.size + 2) v out ∧ OwnF wr (w.heap.size + 1) 4 n.gates.length (fun j => .bool (hasI out j)) ∧ NetEnv w w.heap.size A1 c1 A2 c2 n wr) (fun v _ => n.gates.length - lenV v)
  case atStart => exact ⟨[], by simp, rfl, OutI.nil _ _, hown, hE2⟩
  case round =>
    clear hE2 hown
    obtain ⟨out, hol, hof, hOut, hD, hE⟩ := hrel
    obtain ⟨wo, rfl⟩ : ∃ wo : World, wo = wr := ⟨_, rfl⟩
    obtain ⟨Ao, co, rfl, hco, hAo⟩ := hOut.lenV
    have HOF := Lib.hid hof
    clear hof hAo
    have q0 := hE.c0
    have hDlt := hD.lt
    by_cases hlt : out.length < n.gates.length
    · go_wp2_with fail
      go_loopw [5, 20] (fun nx i wy => nx = .int .i64 (-1) ∧ ∃ k : Nat, k ≤ n.gates.length ∧ i = .int .i64 k ∧ (∀ j : Nat, j < k → readyB n out j = false) ∧ Below wo.heap.size wo wy) (fun _ i _ => n.gates.length - (intOf i).toNat)
      case atStart => exact ⟨rfl, 0, Nat.zero_le _, rfl, by omega, Below.refl _ _⟩
      case round =>
        obtain ⟨rfl, k, hk, rfl, hno, hbw⟩ := hrel
        have HNO := Lib.hid hno
        clear hno q0
        have hE := hE.below hbw hE.size
        have hD := hD.below hbw hDlt
        have hOut := own_below hOut hbw (fun k hk => (own_block_lt hOut k hk).2)
        have hsz := hbw.size
        have q0 := hE.c0
        have q1 := hE.c1
        by_cases hlk : k < n.gates.length
        · have qd := hD.cell hlk
          rcases ho : hasI out (k : Int)
          all_goals
            rw [ho] at qd
            have HO := Lib.hid ho
            clear ho
          · rcases hfr : flowsReady n out (k : Int)
            · have HFR := Lib.hid hfr
              clear hfr
              go_wp2_with (go_at_call 95; refine (waits_b _ _ _ _ n _ (hE.net.more (Nat.le_of_lt hE.size)) HV.out _ out _ _ hD HFR.out).mono ?_; rintro e w3 ⟨rfl, hb3⟩)
              go_roundw
              case rel => exact ⟨rfl, k + 1, by omega, by go_num, nat_snoc (p := fun j => readyB n out (j : Int) = false) HNO.out (by unfold readyB; rw [HFR.out]; simp), hbw.trans (hb3.mono hsz)⟩
              case measure => simp [intOf]; omega
            · have HFR := Lib.hid hfr
              clear hfr
              have HNX : Hid (nextG n out = some k) := range_find_some hlk HNO.out (by unfold readyB; rw [HFR.out, HO.out]; rfl)
              go_wp2_with (first
                | (go_at_call 95; refine (waits_b _ _ _ _ n _ (hE.net.more (Nat.le_of_lt hE.size)) HV.out _ out _ _ hD HFR.out).mono ?_; rintro e w3 ⟨rfl, hb3⟩; have hE3 := hE.below hb3 hE.size; have hD3 := hD.below hb3 (by omega); have hsz3 := hb3.size; have qf3 := hD3.frozen k; have qc3 := hD3.cell hlk; have hO3 : OutI w3 (w.heap.size + 2) _ out := own_below hOut hb3 (fun k hk => (own_block_lt hOut k hk).2))
                | (at_builtin; refine app_int _ rfl _ _ rfl (w.heap.size + 2) _ out rfl (World.ownsRow.alloc (own_set hO3 (by simp) _) _) w3.heap.size (k : Int) rfl (newcell' (by simp)) (by omega) (by simp; omega) ?_; intro v' w5 hO5 hg5))
              have hO4 : OutI ((w3.setCell ⟨w.heap.size + 1, k, none⟩ (.bool true)).alloc (.cells #[.int .i64 k] 3)) (w.heap.size + 2) (.slice Ao out.length co) out := World.ownsRow.alloc (own_set hO3 (by simp) _) _
              have hD5 := ((hD3.set k (.bool true)).alloc (.cells #[.int .i64 k] 3)).grown hg5 (own_ne hO4 (by omega))
              have hb5 : Below (w.heap.size + 1) w3 w5 := (((Below.refl _ w3).setCell (p := ⟨w.heap.size + 1, k, none⟩) (by simp) (.bool true)).alloc (by simp; omega) (.cells #[.int .i64 k] 3)).grown hg5 (by simp; omega) (fun g hg => by have := own_block_lt hO4 g hg; omega)
              have hE5 := hE3.below hb5 (by omega)
              obtain ⟨A5, c5, rfl, _, _⟩ := hO5.lenV
              go_roundw
              case rel =>
                refine ⟨out ++ [(k : Int)], by simp; omega, ?_, hO5, hD5.congr fun j _ => ?_, hE5⟩
                · rw [← HOF.out, show n.gates.length - out.length = n.gates.length - (out ++ [(k : Int)]).length + 1 from by simp; omega, orderFrom_some HNX.out]
                · rw [hasI_snoc]
                  by_cases hjk : j = k
                  · subst hjk; simp
                  · rw [if_neg hjk, decide_eq_false (by omega), Bool.or_false]
              case measure => simp [lenV]; omega
          · go_wp2_with fail
            go_roundw
            case rel => exact ⟨rfl, k + 1, by omega, by go_num, nat_snoc (p := fun j => readyB n out (j : Int) = false) HNO.out (by unfold readyB; rw [HO.out]; rfl), hbw⟩
            case measure => simp [intOf]; omega
        · have HNX : Hid (nextG n out = none) := range_find_none fun j hj => HNO.out j (by omega)
          go_wp2_with fail
          go_ret2
          exact order_no (by rw [← HOF.out, show n.gates.length - out.length = n.gates.length - out.length - 1 + 1 from by omega, orderFrom_none HNX.out]) hE.old
    · have HS : Hid (orderS n = some out) := by rw [← HOF.out, show n.gates.length - out.length = 0 from by omega]; rfl
      go_wp2_with fail
      go_ret2
      exact order_yes HS.out hE.old (own_base hOut (by omega))
end Go.Proofs.Ytlbbhlkbhegegaa

/- Walks: bus.CheckNet. -/
namespace Go.Proofs.Ytlbbhlkbhegegaa
open Go.RowKit

theorem valid_b (A1 A2 : Option Addr) (c1 c2 : Nat) (n : MNet) (b : Bool) (w : World) (h : NetA w w.heap.size A1 A2 n) (hb : netB n = b) :
    Calls Try.prog 54 #[.agg #[.slice A1 n.gates.length c1, .slice A2 n.flows.length c2]] w fun e w' => e = .returned (.bool b) ∧ Below w.heap.size w w' := hb ▸ valid_any A1 A2 c1 c2 n w h
theorem order_n (A1 A2 : Option Addr) (c1 c2 : Nat) (n : MNet) (w : World) (h : NetA w w.heap.size A1 A2 n) (hv : netB n = true) (hn : orderS n = none) :
    Calls Try.prog 55 #[.agg #[.slice A1 n.gates.length c1, .slice A2 n.flows.length c2]] w fun e w' => ∃ v, e = .returned (.tuple #[v, .bool false]) ∧ Below w.heap.size w w' :=
  (order_any A1 A2 c1 c2 n w h hv).mono fun _ _ ⟨v, he, hb, _⟩ => ⟨v, by rw [he, hn]; rfl, hb⟩
theorem order_s (A1 A2 : Option Addr) (c1 c2 : Nat) (n : MNet) (w : World) (h : NetA w w.heap.size A1 A2 n) (hv : netB n = true) (l : List Int) (hn : orderS n = some l) :
    Calls Try.prog 55 #[.agg #[.slice A1 n.gates.length c1, .slice A2 n.flows.length c2]] w fun e w' => ∃ v, e = .returned (.tuple #[v, .bool true]) ∧ Below w.heap.size w w' ∧ OutI w' w.heap.size v l :=
  (order_any A1 A2 c1 c2 n w h hv).mono fun _ _ ⟨v, he, hb, ho⟩ => ⟨v, by rw [he, hn]; rfl, hb, ho l hn⟩

set_option maxHeartbeats 1000000 in
theorem check_any (A1 A2 : Option Addr) (c1 c2 : Nat) (n : MNet) (w : World) (h : NetA w w.heap.size A1 A2 n) :
    Calls Try.prog 17 #[.agg #[.slice A1 n.gates.length c1, .slice A2 n.flows.length c2]] w fun e w' => e = .returned (.int .i64 (checkS n)) ∧ Below w.heap.size w w' := by
  have hE := NetEnv.make (c1 := c1) (c2 := c2) (t := 25) h
  rcases hv : netB n
  · have HV := Lib.hid hv
    clear hv h
    go_enter Try.func17, Try.ntmps17
    go_wp2_with (go_at_call 54; refine (valid_b _ _ _ _ n _ _ (hE.net.more (Nat.le_of_lt hE.size)) HV.out).mono ?_; rintro e w2 ⟨rfl, hb2⟩)
    go_ret
    exact ⟨ret_i (check_45 HV.out).symm, (hE.below hb2 hE.size).old⟩
  have hl1 := (netB_len hv).1
  have hl2 := (netB_len hv).2
  have HV := Lib.hid hv
  clear hv h
  rcases hs : orderS n with _ | l
  · have HS := Lib.hid hs
    clear hs
    go_enter Try.func17, Try.ntmps17
    go_wp2_with (first
      | (go_at_call 54; refine (valid_b _ _ _ _ n _ _ (hE.net.more (Nat.le_of_lt hE.size)) HV.out).mono ?_; rintro e w2 ⟨rfl, hb2⟩; have hE2 := hE.below hb2 hE.size; have q0 := hE2.c0; have q1 := hE2.c1)
      | (go_at_call 55; refine (order_n _ _ _ _ n _ (hE2.net.more (Nat.le_of_lt hE2.size)) HV.out HS.out).mono ?_; rintro e w3 ⟨v, rfl, hb3⟩; have hE3 := hE2.below hb3 hE2.size))
    go_ret
    exact ⟨ret_i (check_46 HV.out HS.out).symm, hE3.old⟩
  have HS := Lib.hid hs
  clear hs
  go_enter Try.func17, Try.ntmps17
  go_wp2_with (first
      | (go_at_call 54; refine (valid_b _ _ _ _ n _ _ (hE.net.more (Nat.le_of_lt hE.size)) HV.out).mono ?_; rintro e w2 ⟨rfl, hb2⟩; have hE2 := hE.below hb2 hE.size; have q0 := hE2.c0; have q1 := hE2.c1)
      | (go_at_call 55; refine (order_s _ _ _ _ n _ (hE2.net.more (Nat.le_of_lt hE2.size)) HV.out _ HS.out).mono ?_; rintro e w3 ⟨v, rfl, hb3, hO3⟩; have hE3 := hE2.below hb3 hE2.size; have q3 := hE3.c0))
  clear hO3 hb2 hb3 hE hE2 q0 q1 q3
  go_loopw [23] (fun i wr => ∃ k : Nat, k ≤ n.gates.length ∧ i = .int .i64 k ∧ (∀ j, j < k → rateOk n j = true) ∧ NetEnv w w.heap.size A1 c1 A2 c2 n wr) (fun i _ => n.gates.length - (intOf i).toNat)
  case atStart => exact ⟨0, Nat.zero_le _, rfl, by omega, hE3⟩
  case round =>
    clear hE3
    obtain ⟨k, hk, rfl, hok, hE⟩ := hrel
    obtain ⟨wo, rfl⟩ : ∃ wo : World, wo = wr := ⟨_, rfl⟩
    have HOK := Lib.hid hok
    clear hok
    have hsz := hE.size
    have q0 := hE.c0
    have q1 := hE.c1
    by_cases hlt : k < n.gates.length
    · obtain ⟨g, b, off, hg, rfl, hb, hc0, hc1⟩ := hE.net.2.2.1.at_ hlt
      have HG := Lib.hid hg
      clear hg
      have hb1 : Below wo.heap.size wo (wo.alloc (.cells #[.int .i64 g.rate, .int .i64 g.delay] 74)) := (Below.refl _ _).alloc (by omega) _
      have hE1 := hE.below hb1 hsz
      have q11 := hE1.c1
      go_wp2_with fail
      have n0 := newcell wo #[.int .i64 g.rate, .int .i64 g.delay] 74 0
      simp only [List.getElem?_toArray, List.getElem?_cons_zero] at n0
      generalize hW : wo.alloc (.cells #[.int .i64 g.rate, .int .i64 g.delay] 74) = w4 at *
      have hs4 : wo.heap.size + 1 = w4.heap.size := by rw [← hW]; simp
      clear hW
      go_loopw [7, 31] (fun r i wy => ∃ m : Nat, m ≤ n.flows.length ∧ i = .int .i64 m ∧ r = .int .i64 (sumRate (n.flows.take m) k) ∧ Below w4.heap.size w4 wy) (fun _ i _ => n.flows.length - (intOf i).toNat)
      case atStart => exact ⟨0, Nat.zero_le _, rfl, rfl, Below.refl _ _⟩
      case round =>
        obtain ⟨m, hm, rfl, rfl, hbw⟩ := hrel
        have hbd := sumRate_bd HV.out (k : Int) m hm
        have hE := hE1.below hbw (by omega)
        have hszr := hbw.size
        by_cases hlm : m < n.flows.length
        · obtain ⟨f, fb, foff, Ap, cp, hf, rfl, hfb, hfc0, hfc1, hfc2, hcp, hp⟩ := hE.net.2.2.2.at_ hlm
          have hpl := hp.1
          unfold maxLen at hpl
          have hfr := (netB_flow HV.out hf).1
          unfold flowB at hfr
          rw [Bool.and_eq_true, inB_iff, inB_iff] at hfr
          obtain ⟨_, hfr⟩ := hfr
          have HSU := Lib.hid (sumRate_succ n.flows (k : Int) m f hf)
          clear hf
          generalize sumRate (n.flows.take m) (k : Int) = S at *
          have hp1 := hp.alloc (B' := w.heap.size) (by omega) (.cells #[.int .i64 f.burst, .int .i64 f.rate, .slice Ap f.path.length cp] 47) (Nat.le_refl _)
          rcases hh : hasI f.path (k : Int)
          all_goals
            have HH := Lib.hid hh
            clear hh
            go_wp2_with (go_at_call 56; refine (contains_b _ _ _ f.path (k : Int) _ _ _ hp1 rfl HH.out).mono ?_; rintro e w' ⟨rfl, rfl⟩)
            go_roundw
            case rel => exact ⟨m + 1, by omega, by go_num, int_c (by rw [HSU.out, HH.out]; simp), hbw.trans ((Below.refl _ _).alloc hszr _)⟩
            case measure => simp [intOf]; omega
        · obtain rfl : m = n.flows.length := by omega
          have n0' : wr.cell? ⟨wo.heap.size, 0, none⟩ = some (.int .i64 g.rate) := (bcell hbw _ _ (by omega)).trans n0
          rw [List.take_of_length_le (Nat.le_refl _)] at *
          have HR := Lib.hid (rateOk_of HG.out)
          generalize sumRate n.flows (k : Int) = S at *
          by_cases hr : g.rate < S
          · go_wp2_with fail
            go_ret
            exact ⟨ret_i (check_47 HV.out HS.out hlt (by rw [HR.out]; simpa using hr)).symm, hE.old⟩
          · go_wp2_with fail
            go_roundw
            case rel => exact ⟨k + 1, by omega, by go_num, nat_snoc HOK.out (by rw [HR.out]; simpa using hr), hE⟩
            case measure => simp [intOf]; omega
    · have HZ := Lib.hid (check_0 HV.out HS.out fun j hj => HOK.out j (by omega))
      clear HOK
      go_wp2_with fail
      go_ret
      exact ⟨ret_i HZ.out.symm, hE.old⟩
end Go.Proofs.Ytlbbhlkbhegegaa

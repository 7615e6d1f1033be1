/- Walks: bus.order. -/
import Derived.Test.YtlbbhlkbhegegaaN4
import Derived.Test.YtlbbhlkbhegegaaLaws
namespace Go.Proofs.Ytlbbhlkbhegegaa
open Go.RowKit

/-- what order hands back -/
def OrderPost (n : MNet) (w : World) (e : Ending) (w' : World) : Prop :=
  ∃ v, e = .returned (.tuple #[v, .bool (orderS n).isSome]) ∧ Below w.heap.size w w' ∧ ∀ l, orderS n = some l → OutI w' w.heap.size v l

theorem order_no {n : MNet} {w w' : World} (h : orderS n = none) (hb : Below w.heap.size w w') : OrderPost n w (.returned (.tuple #[.slice none 0 0, .bool false])) w' :=
  ⟨_, by rw [h]; rfl, hb, fun l hl => by rw [h] at hl; cases hl⟩
theorem order_yes {n : MNet} {w w' : World} {v : Value} {l : List Int} (h : orderS n = some l) (hb : Below w.heap.size w w') (ho : OutI w' w.heap.size v l) : OrderPost n w (.returned (.tuple #[v, .bool true])) w' :=
  ⟨v, by rw [h]; rfl, hb, fun l' hl => by rw [h] at hl; injection hl with hl; subst hl; exact ho⟩
theorem own_ne {w : World} {base e size n g : Nat} {v : Value} {xs : List Value} (h : w.ownsRow base e size v n xs) (hg : g < base) : some g ≠ v.ownBlock := fun e => by
  have := h.lt g e.symm
  omega
set_option maxHeartbeats 2000000 in
theorem order_any (A1 A2 : Option Addr) (c1 c2 : Nat) (n : MNet) (w : World) (h : NetA w w.heap.size A1 A2 n) (hv : netB n = true) :
    Calls Try.prog 55 #[.agg #[.slice A1 n.gates.length c1, .slice A2 n.flows.length c2]] w (OrderPost n w) := by
  have hl1 := (netB_len hv).1
  have HV := Lib.hid hv
  clear hv
  go_enter Try.func55, Try.ntmps55
  have hE := NetEnv.make (c1 := c1) (c2 := c2) (t := 25) h
  go_wp2_with (at_make; refine mk_bools _ rfl _ _ rfl n.gates.length rfl rfl (by omega) ?_; intro w2 hown hb2)
  have hE2 := hE.below hb2 (by simp)
  rw [World.size_alloc] at hown
  have hsz2 : w.heap.size + 1 < w2.heap.size := hown.lt
  clear hE hb2 h
  go_loopw [2] (fun v wr => ∃ out : List Int, out.length ≤ n.gates.length ∧ orderFrom n (n.gates.length - out.length) out = orderS n ∧ OutI wr (w.heap.size + 2) v out ∧ OwnF wr (w.heap.size + 1) 4 n.gates.length (fun j => .bool (hasI out j)) ∧ NetEnv w w.heap.size A1 c1 A2 c2 n wr) (fun v _ => n.gates.length - lenV v)
  case atStart => exact ⟨[], by simp, rfl, OutI.nil _ _, hown, hE2⟩
  case round =>
    clear hE2 hown
    obtain ⟨out, hol, hof, hOut, hD, hE⟩ := hrel
    obtain ⟨wo, rfl⟩ : ∃ wo : World, wo = wr := ⟨_, rfl⟩
    obtain ⟨Ao, co, rfl, hco, hAo⟩ := hOut.lenV
    have HOF := Lib.hid hof
    clear hof hAo
    have q0 := hE.c0
    have hDlt := hD.lt
    by_cases hlt : out.length < n.gates.length
    · go_wp2_with fail
      go_loopw [5, 20] (fun nx i wy => nx = .int .i64 (-1) ∧ ∃ k : Nat, k ≤ n.gates.length ∧ i = .int .i64 k ∧ (∀ j : Nat, j < k → readyB n out j = false) ∧ Below wo.heap.size wo wy) (fun _ i _ => n.gates.length - (intOf i).toNat)
      case atStart => exact ⟨rfl, 0, Nat.zero_le _, rfl, by omega, Below.refl _ _⟩
      case round =>
        obtain ⟨rfl, k, hk, rfl, hno, hbw⟩ := hrel
        have HNO := Lib.hid hno
        clear hno q0
        have hE := hE.below hbw hE.size
        have hD := hD.below hbw hDlt
        have hOut := own_below hOut hbw (fun k hk => (own_block_lt hOut k hk).2)
        have hsz := hbw.size
        have q0 := hE.c0
        have q1 := hE.c1
        by_cases hlk : k < n.gates.length
        · have qd := hD.cell hlk
          rcases ho : hasI out (k : Int)
          all_goals
            rw [ho] at qd
            have HO := Lib.hid ho
            clear ho
          · rcases hfr : flowsReady n out (k : Int)
            · have HFR := Lib.hid hfr
              clear hfr
              go_wp2_with (go_at_call 95; refine (waits_b _ _ _ _ n _ (hE.net.more (Nat.le_of_lt hE.size)) HV.out _ out _ _ hD HFR.out).mono ?_; rintro e w3 ⟨rfl, hb3⟩)
              go_roundw
              case rel => exact ⟨rfl, k + 1, by omega, by go_num, nat_snoc (p := fun j => readyB n out (j : Int) = false) HNO.out (by unfold readyB; rw [HFR.out]; simp), hbw.trans (hb3.mono hsz)⟩
              case measure => simp [intOf]; omega
            · have HFR := Lib.hid hfr
              clear hfr
              have HNX : Hid (nextG n out = some k) := range_find_some hlk HNO.out (by unfold readyB; rw [HFR.out, HO.out]; rfl)
              go_wp2_with (first
                | (go_at_call 95; refine (waits_b _ _ _ _ n _ (hE.net.more (Nat.le_of_lt hE.size)) HV.out _ out _ _ hD HFR.out).mono ?_; rintro e w3 ⟨rfl, hb3⟩; have hE3 := hE.below hb3 hE.size; have hD3 := hD.below hb3 (by omega); have hsz3 := hb3.size; have qf3 := hD3.frozen k; have qc3 := hD3.cell hlk; have hO3 : OutI w3 (w.heap.size + 2) _ out := own_below hOut hb3 (fun k hk => (own_block_lt hOut k hk).2))
                | (at_builtin; refine app_int _ rfl _ _ rfl (w.heap.size + 2) _ out rfl (World.ownsRow.alloc (own_set hO3 (by simp) _) _) w3.heap.size (k : Int) rfl (newcell' (by simp)) (by omega) (by simp; omega) ?_; intro v' w5 hO5 hg5))
              have hO4 : OutI ((w3.setCell ⟨w.heap.size + 1, k, none⟩ (.bool true)).alloc (.cells #[.int .i64 k] 3)) (w.heap.size + 2) (.slice Ao out.length co) out := World.ownsRow.alloc (own_set hO3 (by simp) _) _
              have hD5 := ((hD3.set k (.bool true)).alloc (.cells #[.int .i64 k] 3)).grown hg5 (own_ne hO4 (by omega))
              have hb5 : Below (w.heap.size + 1) w3 w5 := (((Below.refl _ w3).setCell (p := ⟨w.heap.size + 1, k, none⟩) (by simp) (.bool true)).alloc (by simp; omega) (.cells #[.int .i64 k] 3)).grown hg5 (by simp; omega) (fun g hg => by have := own_block_lt hO4 g hg; omega)
              have hE5 := hE3.below hb5 (by omega)
              obtain ⟨A5, c5, rfl, _, _⟩ := hO5.lenV
              go_roundw
              case rel =>
                refine ⟨out ++ [(k : Int)], by simp; omega, ?_, hO5, hD5.congr fun j _ => ?_, hE5⟩
                · rw [← HOF.out, show n.gates.length - out.length = n.gates.length - (out ++ [(k : Int)]).length + 1 from by simp; omega, orderFrom_some HNX.out]
                · rw [hasI_snoc]
                  by_cases hjk : j = k
                  · subst hjk; simp
                  · rw [if_neg hjk, decide_eq_false (by omega), Bool.or_false]
              case measure => simp [lenV]; omega
          · go_wp2_with fail
            go_roundw
            case rel => exact ⟨rfl, k + 1, by omega, by go_num, nat_snoc (p := fun j => readyB n out (j : Int) = false) HNO.out (by unfold readyB; rw [HO.out]; rfl), hbw⟩
            case measure => simp [intOf]; omega
        · have HNX : Hid (nextG n out = none) := range_find_none fun j hj => HNO.out j (by omega)
          go_wp2_with fail
          go_ret2
          exact order_no (by rw [← HOF.out, show n.gates.length - out.length = n.gates.length - out.length - 1 + 1 from by omega, orderFrom_none HNX.out]) hE.old
    · have HS : Hid (orderS n = some out) := by rw [← HOF.out, show n.gates.length - out.length = 0 from by omega]; rfl
      go_wp2_with fail
      go_ret2
      exact order_yes HS.out hE.old (own_base hOut (by omega))
end Go.Proofs.Ytlbbhlkbhegegaa

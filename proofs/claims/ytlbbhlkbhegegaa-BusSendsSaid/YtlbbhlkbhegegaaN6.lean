/- Walks: ignitionref04.order. -/
import Derived.Test.YtlbbhlkbhegegaaNm
namespace Go.Proofs.Ytlbbhlkbhegegaa
open Go.RowKit

def hopR (out : List Int) (g : Int) (p : List Int) (k : Nat) : Bool := decide (k = 0) || (p.getD k 0 != g) || hasI out (p.getD (k - 1) 0)
theorem stepB_hop (out : List Int) (g : Int) (p : List Int) : stepB out g p = (List.range p.length).all (hopR out g p) := rfl
theorem range_all_succ (p : Nat → Bool) (k : Nat) : (List.range (k + 1)).all p = ((List.range k).all p && p k) := by
  rw [List.range_succ, List.all_append]; simp
theorem take_all_succ {α : Type} (l : List α) (p : α → Bool) (k : Nat) (x : α) (h : l[k]? = some x) : (l.take (k + 1)).all p = ((l.take k).all p && p x) := by
  have hk : k < l.length := by
    rcases Nat.lt_or_ge k l.length with h1 | h1
    · exact h1
    · rw [List.getElem?_eq_none h1] at h; cases h
  rw [List.take_add_one, h, List.all_append]; simp
theorem val_b {a b : Bool} (h : a = b) : Value.bool a = Value.bool b := by rw [h]
/-- how far the search for the next gate has come -/
def FindRel (n : MNet) (out : List Int) (nx i : Value) : Prop :=
  (nx = .int .i64 (-1) ∧ ∃ k : Nat, k ≤ n.gates.length ∧ i = .int .i64 k ∧ ∀ j : Nat, j < k → readyB n out j = false) ∨
  ∃ g0 : Nat, nx = .int .i64 g0 ∧ g0 < n.gates.length ∧ i = .int .i64 (g0 + 1 : Nat) ∧ nextG n out = some g0

set_option maxHeartbeats 2000000 in
theorem rorder_any (A1 A2 : Option Addr) (c1 c2 : Nat) (n : MNet) (w : World) (h : NetA w w.heap.size A1 A2 n) (hv : netB n = true) :
    Calls Try.prog 58 #[.agg #[.slice A1 n.gates.length c1, .slice A2 n.flows.length c2]] w (OrderPost n w) := by
  have hl1 := (netB_len hv).1
  have hl2 := (netB_len hv).2
  have HV := Lib.hid hv
  clear hv
  go_enter Try.func58, Try.ntmps58
  have hE := NetEnv.make (c1 := c1) (c2 := c2) (t := 25) h
  go_wp2
  generalize hW : World.alloc w _ = w2 at *
  clear hW h
  go_loopw [4] (fun v wr => ∃ out : List Int, out.length ≤ n.gates.length ∧ orderFrom n (n.gates.length - out.length) out = orderS n ∧ OutI wr (w.heap.size + 1) v out ∧ NetEnv w w.heap.size A1 c1 A2 c2 n wr) (fun v _ => n.gates.length - lenV v)
  case atStart => exact ⟨[], by simp, rfl, OutI.nil _ _, hE⟩
  case round =>
    clear hE
    obtain ⟨out, hol, hof, hOut, hE⟩ := hrel
    obtain ⟨wo, rfl⟩ : ∃ wo : World, wo = wr := ⟨_, rfl⟩
    obtain ⟨Ao, co, rfl, hco, hI⟩ := hOut.reads
    have HOF := Lib.hid hof
    clear hof
    have q0 := hE.c0
    have q1 := hE.c1
    have hsz := hE.size
    by_cases hlt : out.length < n.gates.length
    · go_wp2_with fail
      go_loop [5, 6] (fun nx i => FindRel n out nx i) (fun _ i => n.gates.length - (intOf i).toNat)
      case atStart => exact .inl ⟨rfl, 0, Nat.zero_le _, rfl, by omega⟩
      case round =>
        rcases hrel with ⟨rfl, k, hk, rfl, hno⟩ | ⟨g0, rfl, hg0, rfl, hnx⟩
        · have HNO := Lib.hid hno
          clear hno
          by_cases hlk : k < n.gates.length
          · rcases ho : hasI out (k : Int)
            all_goals
              have HO := Lib.hid ho
              clear ho
              go_wp2_with (go_at_call 59; refine (has_b _ _ _ out (k : Int) _ _ _ hI rfl HO.out).mono ?_; rintro e w' ⟨rfl, rfl⟩)
              go_loop [7, 8] (fun r i => ∃ (m : Nat) (b : Bool), m ≤ n.flows.length ∧ i = .int .i64 m ∧ r = .bool b ∧ Hid (b = (!hasI out k && (n.flows.take m).all fun f => stepB out k f.path))) (fun _ i => n.flows.length - (intOf i).toNat)
              case atStart => exact ⟨0, _, Nat.zero_le _, rfl, rfl, by rw [HO.out]; rfl⟩
              case round =>
                obtain ⟨m, b, hm, rfl, rfl, HB⟩ := hrel
                by_cases hlm : m < n.flows.length
                · obtain ⟨f, fb, off, Ap, cp, hf, rfl, hb, hc0, hc1, hc2, hcp, hp⟩ := hE.net.2.2.2.at_ hlm
                  have hpl := netB_flow HV.out hf
                  have hpl1 := (inB_iff.1 hpl.2.1)
                  have HFl := Lib.hid hf
                  clear hf hpl
                  go_wp2_with fail
                  go_loop [7, 10] (fun r i => ∃ (t : Nat) (b' : Bool), 1 ≤ t ∧ t ≤ f.path.length ∧ i = .int .i64 t ∧ r = .bool b' ∧ Hid (b' = (b && (List.range t).all (hopR out k f.path)))) (fun _ i => f.path.length - (intOf i).toNat)
                  case atStart => exact ⟨1, _, by omega, by omega, rfl, rfl, by show b = _; simp [List.range_succ, hopR]⟩
                  case round =>
                    obtain ⟨t, b', ht1, ht, rfl, rfl, HB'⟩ := hrel
                    by_cases hlt2 : t < f.path.length
                    · obtain ⟨t, rfl⟩ : ∃ t0, t = t0 + 1 := ⟨t - 1, by omega⟩
                      obtain ⟨pb, po, rfl, hpb, hpc⟩ := hp.at_ hlt2
                      obtain ⟨pb', po', he, _, hpc'⟩ := hp.at_ (k := t) (by omega)
                      injection he with he
                      injection he with he1 he2
                      subst he1
                      subst he2
                      have HH : Hid (hopR out k f.path (t + 1) = ((f.path.getD (t + 1) 0 != (k : Int)) || hasI out (f.path.getD t 0))) := by show _ = _; simp [hopR]
                      generalize hx : f.path.getD (t + 1) 0 = x at *
                      generalize hy : f.path.getD t 0 = y at *
                      clear hx hy
                      cases b'
                      · go_wp2_with fail
                        go_round
                        case rel => exact ⟨t + 1 + 1, false, by omega, by omega, by go_num, rfl, by show false = _; rw [range_all_succ, ← Bool.and_assoc, ← HB'.out]; rfl⟩
                        case measure => simp [intOf]; omega
                      · rcases hxx : (x != (k : Int))
                        · rcases hyy : hasI out y
                          all_goals
                            have HY := Lib.hid hyy
                            have HX := Lib.hid hxx
                            clear hyy
                            go_wp2_with (go_at_call 59; refine (has_b _ _ _ out y _ _ _ hI rfl HY.out).mono ?_; rintro e w' ⟨rfl, rfl⟩)
                            go_round
                            case rel => exact ⟨t + 1 + 1, _, by omega, by omega, by go_num, rfl, by show _ = _; rw [range_all_succ, ← Bool.and_assoc, ← HB'.out, HH.out, HX.out, HY.out]; rfl⟩
                            case measure => simp [intOf]; omega
                        · have HX := Lib.hid hxx
                          go_wp2_with fail
                          go_round
                          case rel => exact ⟨t + 1 + 1, _, by omega, by omega, by go_num, rfl, by show _ = _; rw [range_all_succ, ← Bool.and_assoc, ← HB'.out, HH.out, HX.out]; rfl⟩
                          case measure => simp [intOf]; omega
                    · obtain rfl : t = f.path.length := by omega
                      go_wp2_with fail
                      go_round
                      case rel => exact ⟨m + 1, b', by omega, by go_num, rfl, by show b' = _; rw [take_all_succ _ _ _ _ HFl.out, ← Bool.and_assoc, ← HB.out, stepB_hop]; exact HB'.out⟩
                      case measure => simp [intOf]; omega
                · obtain rfl : m = n.flows.length := by omega
                  have HR : Hid (readyB n out k = b) := by show _ = _; rw [HB.out, List.take_of_length_le (Nat.le_refl _)]; rfl
                  cases b
                  · go_wp2_with fail
                    go_round
                    case rel => exact .inl ⟨rfl, k + 1, by omega, by go_num, nat_snoc (p := fun j => readyB n out (j : Int) = false) HNO.out HR.out⟩
                    case measure => simp [intOf]; omega
                  · go_wp2_with fail
                    go_round
                    case rel => exact .inr ⟨k, rfl, hlk, by go_num, range_find_some hlk HNO.out HR.out⟩
                    case measure => simp [intOf]; omega
          · have HNX : Hid (nextG n out = none) := range_find_none fun j hj => HNO.out j (by omega)
            go_wp2_with fail
            go_ret2
            exact order_no (by rw [← HOF.out, show n.gates.length - out.length = n.gates.length - out.length - 1 + 1 from by omega, orderFrom_none HNX.out]) hE.old
        · have HNX := Lib.hid hnx
          clear hnx
          go_wp2_with (first
                | (at_builtin; refine app_int _ rfl _ _ rfl (w.heap.size + 1) _ out rfl (World.ownsRow.alloc hOut _) wo.heap.size (g0 : Int) rfl (newcell' (by simp)) (by omega) (by simp; omega) ?_; intro v' w5 hO5 hg5))
          all_goals
            have hO4 : OutI (wo.alloc (.cells #[.int .i64 g0] 3)) (w.heap.size + 1) (.slice Ao out.length co) out := World.ownsRow.alloc hOut _
            have hb5 : Below (w.heap.size + 1) wo w5 := ((Below.refl _ wo).alloc (by omega) (.cells #[.int .i64 g0] 3)).grown hg5 (by simp; omega) (fun g hg => by have := own_block_lt hO4 g hg; omega)
            have hE5 := hE.below hb5 (by omega)
            obtain ⟨A5, c5, rfl, _, _⟩ := hO5.lenV
            go_roundw
            case rel => exact ⟨out ++ [(g0 : Int)], by simp; omega, by rw [← HOF.out, show n.gates.length - out.length = n.gates.length - (out ++ [(g0 : Int)]).length + 1 from by simp; omega, orderFrom_some HNX.out], hO5, hE5⟩
            case measure => simp [lenV]; omega
    · have HS : Hid (orderS n = some out) := by rw [← HOF.out, show n.gates.length - out.length = 0 from by omega]; rfl
      go_wp2_with fail
      go_ret2
      exact order_yes HS.out hE.old (own_base hOut (by omega))
end Go.Proofs.Ytlbbhlkbhegegaa

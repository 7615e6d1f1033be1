/- Plain: when releases are due; the walk of ignitionref04.Due. -/
import Derived.Test.YtlbbhlkbhegegaaPl2
import Derived.Test.YtlbbhlkbhegegaaPl6
import Derived.Test.YtlbbhlkbhegegaaRs1
import Derived.Test.YtlbbhlkbhegegaaTail
import Derived.Test.YtlbbhlkbhegegaaLaws
import Derived.Test.YtlbbhlkbhegegaaN5
import Derived.Deep.RegionHeld3
import Derived.Deep.AppendLies
namespace Go.Proofs.Ytlbbhlkbhegegaa
open Go.RowKit

/-- how many of the first k releases are of frame f -/
def sameTo (rs : List MGate) (f : Int) : Nat → Nat
  | 0 => 0
  | k + 1 => sameTo rs f k + if (relAt rs k).rate = f then 1 else 0
/-- the time of the last of the first k releases that is of frame f -/
def lastTo (rs : List MGate) (f : Int) : Nat → Int
  | 0 => 0
  | k + 1 => if (relAt rs k).rate = f then (relAt rs k).delay else lastTo rs f k
def frAt (l : List MFrame) (i : Int) : MFrame := l.getD i.toNat ⟨0, 0, 0, 0, 0⟩
theorem frAt_of {l : List MFrame} {i : Int} {f : MFrame} (h : l[i.toNat]? = some f) : frAt l i = f := by
  unfold frAt; rw [List.getD_eq_getElem?_getD, h]; rfl
/-- when frame f is due for the (n + 1)st time -/
def dueAt (l : List MFrame) (os : List Int) (f : Int) (n : Nat) : Int := os.getD f.toNat 0 + (n : Int) * (frAt l f).every
def dueS (l : List MFrame) (rs : List MGate) (os : List Int) (k : Nat) : Int := dueAt l os (relAt rs k).rate (sameTo rs (relAt rs k).rate k)
theorem sameTo_le {rs : List MGate} {f : Int} : ∀ k, sameTo rs f k ≤ k
  | 0 => Nat.le_refl _
  | k + 1 => by
    rw [sameTo]
    have := sameTo_le (rs := rs) (f := f) k
    by_cases e : (relAt rs k).rate = f
    · rw [if_pos e]; omega
    · rw [if_neg e]; omega
theorem offs_at {os : List Int} (h : os.all offB = true) {k : Nat} (hk : k < os.length) : 0 ≤ os.getD k 0 ∧ os.getD k 0 ≤ 1000000 := by
  rw [List.all_eq_true] at h
  have := h os[k] (List.getElem_mem _)
  unfold offB at this
  rw [inB_iff'] at this
  rw [List.getD_eq_getElem?_getD, List.getElem?_eq_getElem hk]
  exact this
theorem due_succ (l : List MFrame) (rs : List MGate) (os : List Int) (k : Nat) : (List.range (k + 1)).map (dueS l rs os) = (List.range k).map (dueS l rs os) ++ [dueS l rs os k] := by
  rw [List.range_succ, List.map_append]; rfl

theorem step_app_int {ops : Array Oper} {o : Oper} {a : Act} {K : Act → World → Prop} {Q : Exit → Act → World → Prop} {E : Prop} (w : World) (hg : o.guard = none) (s x : Operand) (ho : o.op = .call { callee := .builtin .append, args := #[s, x], argTypes := #[28, 28] }) (base : Nat) (v : Value) (l : List Int)
    (hs : a.eval s = v) (hown : OutI w base v l) (wb : Nat) (y : Int) (hx : a.eval x = .slice (some ⟨wb, 0, none⟩) 1 1) (hy : w.cell? ⟨wb, 0, none⟩ = some (.int .i64 y)) (hlen : l.length ≤ 1000000) (hbase : base ≤ w.heap.size) (H : Nat) (hH : w.heap.size = H)
    (hK : ∀ v' w', OutI w' base v' (l ++ [y]) → w.grownBy w' v.ownBlock → K (a.put o.dst v') w') :
    if Region.wanted o (yielded ops a.tmps) = true then Oper.wp Try.prog o a w K Q else E := by
  obtain ⟨i0, hi, hz0, hz1, hz2⟩ := info_parts info_int
  refine step_append_lies w hg s x 28 ho base 3 i0 (.int .i64 0) 1 8 under_ints hi hz0 hz1 hz2 rfl (by decide) v l.length _ hs hown ⟨wb, 0, none⟩ 1 1 [.int .i64 y] hx rfl ?_ ?_ (by omega) (by unfold maxLen; omega) (by omega) hbase H hH (fun g cap' w' h1 h2 h3 h4 => hK _ w' ?_ h2)
  · intro j u hj
    cases j with
    | zero =>
      simp only [List.getElem?_cons_zero, Option.some.injEq] at hj
      subst hj
      exact hy
    | succ j => simp at hj
  · intro u hu
    simp only [List.mem_singleton] at hu
    subst hu
    rfl
  · unfold OutI
    rw [List.length_append, List.map_append]
    exact h1
set_option maxRecDepth 100000 in
set_option maxHeartbeats 4000000 in
theorem due_any (A : Option Addr) (cap : Nat) (l : List MFrame) (G : Option Addr) (gcap : Nat) (rs : List MGate) (O : Option Addr) (ocap : Nat) (os : List Int) (w : World) (h : FramesA w w.heap.size A l) (hG : GatesA w w.heap.size G rs) (hO : IntsA w w.heap.size O os)
    (hz : relS l rs = 0) (hol : os.length = l.length) (hoff : os.all offB = true) :
    Calls Try.prog 41 #[.slice A l.length cap, .slice G rs.length gcap, .slice O os.length ocap] w fun e w' => ∃ X xk x, e = .returned (.slice X rs.length xk) ∧ rs.length ≤ xk ∧ IntsA w' w'.heap.size X x ∧ (x.length = rs.length ∧ ∀ k, k < rs.length → x.getD k 0 = dueS l rs os k) ∧ Below w.heap.size w w' := by
  have hparts := relS_parts hz
  have hl := (framesB_parts hparts.1).1
  have HF := Lib.hid (framesF hparts.1)
  have hr5 := hparts.2.1
  have HR := Lib.hid (fun k r (hk : rs[k]? = some r) => relsB_at hparts.2.2 hk)
  have HOF := Lib.hid (fun k (hk : k < os.length) => offs_at hoff hk)
  clear hparts hz hoff
  go_enter Try.func41, Try.ntmps41
  go_wp2_with (at_make; refine mk_ints _ rfl _ _ rfl l.length rfl rfl (by omega) ?_; intro w2 hM hb2)
  have hM2 := hM.lt
  go_loopw [8, 9] (fun v vi wr => ∃ k : Nat, k ≤ rs.length ∧ vi = .int .i64 k ∧ OwnF wr w.heap.size 3 l.length (fun f => .int .i64 (sameTo rs f k)) ∧ OutI wr (w.heap.size + 1) v ((List.range k).map (dueS l rs os)) ∧ Below w.heap.size w wr) (fun _ vi _ => rs.length - (intOf vi).toNat)
  case atStart => exact ⟨0, Nat.zero_le _, rfl, hM, OutI.nil _ _, hb2⟩
  case round =>
    clear hM hb2 hM2
    obtain ⟨k, hk, rfl, hM, hOut, hbw⟩ := hrel
    have hLl : ((List.range k).map (dueS l rs os)).length ≤ 1000 := by rw [List.length_map, List.length_range]; omega
    have hML := hM.lt
    by_cases hlt : k < rs.length
    · obtain ⟨r, rb, ro, hr, rfl, hrb, c0, c1⟩ := GatesA.at_ (SlA.below hG hbw (Nat.le_refl _)) hlt
      have hrr := (HR.out k r hr).1
      have HRK := Lib.hid (relAt_of hr)
      clear hr c1
      obtain ⟨f, fb, fo, hf, rfl, hfb, _, f1, _, _, _⟩ := (h.keep hbw).at_ (k := r.rate.toNat) (by omega)
      have hfo := (HF.out _ f hf).2.1
      obtain ⟨ob, oo, rfl, hob, o0⟩ := (hO.below hbw (Nat.le_refl _)).at_ (k := r.rate.toNat) (by omega)
      have hoo := HOF.out r.rate.toNat (by omega)
      have m0 := hM.cell (j := r.rate.toNat) (by omega)
      have mf := hM.frozen r.rate.toNat
      have hsk := sameTo_le (rs := rs) (f := r.rate) k
      have HD : Hid (dueS l rs os k = os.getD r.rate.toNat 0 + (sameTo rs r.rate k : Int) * f.every) := by
        show _ = _
        unfold dueS dueAt
        rw [HRK.out, frAt_of hf]
      have hrt : ((r.rate.toNat : Nat) : Int) = r.rate := by omega
      rw [hrt] at m0
      have HMM : Hid (∀ j, j < l.length → (if j = r.rate.toNat then Value.int .i64 ((sameTo rs r.rate k : Int) + 1) else .int .i64 (sameTo rs (j : Int) k)) = .int .i64 (sameTo rs (j : Int) (k + 1) : Nat)) := fun j hj => by
        rw [sameTo, HRK.out]
        by_cases e : j = r.rate.toNat
        · subst e
          rw [if_pos rfl, hrt, if_pos rfl]
          rfl
        · rw [if_neg e, if_neg (by omega)]
          rfl
      have HSN := Lib.hid (due_succ l rs os k)
      generalize os.getD r.rate.toNat 0 = o at *
      generalize sameTo rs r.rate k = sm at *
      generalize (List.range k).map (dueS l rs os) = L at *
      obtain ⟨Ab, cb, rfl, hcb, _⟩ := hOut.lenV
      have hp0 : 0 ≤ (sm : Int) * f.every := Int.mul_nonneg (by omega) (by omega)
      have hp1 : (sm : Int) * f.every ≤ 50000000 := by
        have := Int.mul_le_mul (show (sm : Int) ≤ 500 by omega) hfo.2 (by omega) (by omega)
        omega
      have e1 : IntKind.i64.wrap ((sm : Int) * f.every) = (sm : Int) * f.every := IntWalk.i64_in _ (by omega)
      generalize hpp : (sm : Int) * f.every = pr at *
      have e2 : IntKind.i64.wrap (o + pr) = o + pr := IntWalk.i64_in _ (by omega)
      clear hf
      go_wp2_with fail
      have hO3 : OutI (wr.drew.alloc (.cells #[.int .i64 (o + pr)] 3)) (w.heap.size + 1) _ _ := World.ownsRow.alloc (World.ownsRow.drew hOut) _
      have HS : Hid (∀ w', Below (w.heap.size + 1) wr w' → w'.cell? ⟨ob, oo + r.rate.toNat, none⟩ = some (.int .i64 o) ∧ w'.cell? ⟨w.heap.size, r.rate.toNat, none⟩ = some (.int .i64 sm) ∧ w'.cell? ⟨fb, fo + r.rate.toNat * 5 + 1, none⟩ = some (.int .i64 f.every)) := fun w' hb => ⟨(bcell hb _ _ (by omega)).trans o0, (bcell hb _ _ (by omega)).trans m0, (bcell hb _ _ (by omega)).trans f1⟩
      have hb00 : Below (w.heap.size + 1) wr wr := Below.refl _ _
      go_region_held3 (fun w' => w'.cell? ⟨ob, oo + r.rate.toNat, none⟩ = some (.int .i64 o) ∧ w'.cell? ⟨w.heap.size, r.rate.toNat, none⟩ = some (.int .i64 sm) ∧ w'.cell? ⟨fb, fo + r.rate.toNat * 5 + 1, none⟩ = some (.int .i64 f.every)) (first | go_keep | exact HS.out _ hb00.drew | exact HS.out _ (hb00.drew.alloc (by simp; omega) _) | exact HS.out _ ((hb00.drew.alloc (by simp; omega) _).grown hg6 (by simp; omega) (fun g hg => (own_block_lt hO3 g hg).1))) ((refine step_app_int _ (by rfl) _ _ (by rfl) (w.heap.size + 1) _ _ (by rfl) hO3 wr.drew.heap.size (o + pr) (by rfl) (newcell _ _ _ _) (by omega) (by simp; have := hbw.size; omega) _ (by rfl) ?_; intro v6 w6 hO6 hg6))
      have hMd : OwnF wr.drew w.heap.size 3 l.length _ := hM
      have hM6 := (OwnF.alloc hMd (.cells #[.int .i64 (o + pr)] 3)).grown hg6 (fun e => by have := (own_block_lt hO3 _ e.symm).1; omega)
      have m6 := hM6.cell (j := r.rate.toNat) (by omega)
      have mf6 := hM6.frozen r.rate.toNat
      have hb6 : Below w.heap.size w w6 := (hbw.drew.alloc (by simp; have := hbw.size; omega) _).grown hg6 (by simp; have := hbw.size; omega) (fun g hg => Nat.le_of_succ_le (own_block_lt hO3 g hg).1)
      have e3 : IntKind.i64.wrap ((sm : Int) + 1) = (sm : Int) + 1 := IntWalk.i64_in _ (by omega)
      go_wp2_with fail
      go_roundw
      case rel =>
        refine ⟨k + 1, by omega, by go_num, (hM6.set r.rate.toNat (.int .i64 ((sm : Int) + 1))).congr HMM.out, ?_, hb6.setCell (p := ⟨w.heap.size, r.rate.toNat, none⟩) (Nat.le_refl _) _⟩
        rw [HSN.out, HD.out]
        exact own_set hO6 (by simp) _
      case measure => simp [intOf]; omega
    · obtain rfl : k = rs.length := by omega
      obtain ⟨X, xk, hX, hxk, hXI⟩ := hOut.reads
      have hLe : ((List.range rs.length).map (dueS l rs os)).length = rs.length := by rw [List.length_map, List.length_range]
      have HGD : Hid (∀ k, k < rs.length → ((List.range rs.length).map (dueS l rs os)).getD k 0 = dueS l rs os k) := fun k hk => by
        rw [List.getD_eq_getElem?_getD, List.getElem?_map, List.getElem?_range hk]; rfl
      rw [hLe] at hX hxk
      subst hX
      have HLE := Lib.hid hLe
      clear hLe hOut hLl
      go_wp2_with fail
      go_ret
      exact ⟨X, xk, _, rfl, hxk, hXI, ⟨HLE.out, HGD.out⟩, hbw⟩
end Go.Proofs.Ytlbbhlkbhegegaa

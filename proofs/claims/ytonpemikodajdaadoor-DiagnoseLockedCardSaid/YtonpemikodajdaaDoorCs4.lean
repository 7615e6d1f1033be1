/- Walks: the weight of a set. -/
import Derived.Test.YtonpemikodajdaaDoorCs2
import Derived.Test.YtonpemikodajdaaDoorTz
namespace Go.Proofs.YtonpemikodajdaaDoor
open Go.RowKit

/-- what the methods of a guide read of it; the case lies below B0 -/
structure GE (w : World) (B0 gp : Nat) (A1 : Option Addr) (c1 : Nat) (A2 : Option Addr) (c2 : Nat) (c : MCase) : Prop where
  lt : gp < w.heap.size
  tab : TabW w
  g0 : w.cell? ⟨gp, 0, none⟩ = some (.slice A1 c.weights.length c1)
  g1 : w.cell? ⟨gp, 1, none⟩ = some (.slice A2 c.tests.length c2)
  ca : CaseA w B0 A1 A2 c
  t1 : 1 < B0
  le : B0 ≤ gp
theorem GE.keep {w w' : World} {B0 gp : Nat} {A1 : Option Addr} {c1 : Nat} {A2 : Option Addr} {c2 : Nat} {c : MCase} (h : GE w B0 gp A1 c1 A2 c2 c) {B : Nat} (hb : Below B w w') (hB : gp < B) : GE w' B0 gp A1 c1 A2 c2 c :=
  ⟨by have := hb.size; have := h.lt; omega, h.tab.below hb (by have := h.t1; have := h.le; omega), (bcell hb _ _ hB).trans h.g0, (bcell hb _ _ hB).trans h.g1, h.ca.below (hb.mono (B' := B0) (by have := h.le; omega)) (Nat.le_refl _), h.t1, h.le⟩
theorem GE.grown {w w' : World} {B0 gp mb : Nat} {A1 : Option Addr} {c1 : Nat} {A2 : Option Addr} {c2 : Nat} {c : MCase} (h : GE w B0 gp A1 c1 A2 c2 c) (hg : w.grownBy w' (some mb)) (hm : B0 ≤ mb) (hne : gp ≠ mb) : GE w' B0 gp A1 c1 A2 c2 c := by
  have hb : Below B0 w w' := (Below.refl _ _).grown hg (by have := h.lt; have := h.le; omega) (fun k hk => by injection hk with hk; omega)
  exact ⟨by have := hb.size; have := h.lt; omega, h.tab.below hb h.t1, hg.cell h.g0 (fun e => hne (by injection e)), hg.cell h.g1 (fun e => hne (by injection e)), h.ca.below hb (Nat.le_refl _), h.t1, h.le⟩
theorem weightL_snoc (ws : List Int) : ∀ (l : List Nat) (k : Nat) (x : Nat), l[k]? = some x → weightL ws (l.take (k + 1)) = weightL ws (l.take k) + ws.getD x 0
  | [], k, x, h => by simp at h
  | y :: r, 0, x, h => by
    simp at h
    subst h
    simp [weightL]
  | y :: r, k + 1, x, h => by
    rw [List.take_succ_cons, List.take_succ_cons, weightL, weightL, weightL_snoc ws r k x (by simpa using h)]
    omega
theorem weightL_bd {ws : List Int} (h : ∀ k, k < ws.length → 0 ≤ ws.getD k 0 ∧ ws.getD k 0 ≤ 1000) : ∀ l : List Nat, (∀ i, i ∈ l → i < ws.length) → 0 ≤ weightL ws l ∧ weightL ws l ≤ 1000 * (l.length : Int)
  | [], _ => by simp [weightL]
  | i :: r, hl => by
    have h1 := h i (hl i (List.mem_cons_self ..))
    have ih := weightL_bd h r fun j hj => hl j (List.mem_cons_of_mem _ hj)
    rw [weightL, List.length_cons]
    omega
theorem bits_lt {s n : Nat} (hs : s < 2 ^ n) {i : Nat} (hi : i ∈ bitsOf s) : i < n := by
  rcases Nat.lt_or_ge i n with h | h
  · exact h
  · have h1 := (mem_bitsOf.1 hi).2
    have : 2 ^ n ≤ 2 ^ i := Nat.pow_le_pow_right (by omega) h
    rw [Nat.testBit_lt_two_pow (by omega)] at h1
    cases h1
theorem two12 {s n : Nat} (hs : s < 2 ^ n) (hn : n ≤ 12) : s < 4096 := by
  have : 2 ^ n ≤ 2 ^ 12 := Nat.pow_le_pow_right (by omega) hn
  exact Nat.lt_of_lt_of_le hs this
theorem bitsI_at {s k : Nat} (hk : k < (bitsI s).length) : ∃ i, (bitsOf s)[k]? = some i ∧ i ∈ bitsOf s ∧ (bitsI s).getD k 0 = (i : Int) := by
  unfold bitsI at hk ⊢
  rw [List.length_map] at hk
  exact ⟨(bitsOf s)[k], List.getElem?_eq_getElem hk, List.getElem_mem _, by rw [List.getD_eq_getElem?_getD, List.getElem?_map, List.getElem?_eq_getElem hk]; rfl⟩
theorem bitsI_length (s : Nat) : (bitsI s).length = (bitsOf s).length := by unfold bitsI; rw [List.length_map]
theorem list_r (s : Nat) (w : World) (hs : s < 4096) (hT : TabW w) {n : Nat} (hn : (bitsI s).length = n) :
    Calls Tryd.prog 65 #[.int .u64 s] w fun e w' => ∃ Lb lc, e = .returned (.slice Lb n lc) ∧ n ≤ lc ∧ IntsA w' w'.heap.size Lb (bitsI s) ∧ Below w.heap.size w w' ∧ OutI w' w.heap.size (.slice Lb n lc) (bitsI s) :=
  (list_any s w hs hT).mono fun e w' ⟨v, he, hO, hb⟩ => by
    obtain ⟨Lb, lc, rfl, hlc, hI⟩ := hO.reads
    rw [hn] at he hlc hO
    exact ⟨Lb, lc, he, hlc, hI, hb, hO⟩
theorem OutI.at_ {w : World} {base n cap k : Nat} {A : Option Addr} {l : List Int} (h : OutI w base (.slice A n cap) l) (hn : l.length = n) (hk : k < n) : ∃ b, A = some ⟨b, 0, none⟩ ∧ base ≤ b ∧ b < w.heap.size ∧ w.cell? ⟨b, k, none⟩ = some (.int .i64 (l.getD k 0)) := by
  obtain ⟨g, hA, hb, hO⟩ := h.ownF (by omega)
  exact ⟨g, hA, hb, hO.lt, hO.cell (by omega)⟩
set_option maxRecDepth 100000 in
set_option maxHeartbeats 1000000 in
theorem weight_any (B0 gp : Nat) (A1 : Option Addr) (c1 : Nat) (A2 : Option Addr) (c2 : Nat) (c : MCase) (s : Nat) (w : World) (h : GE w B0 gp A1 c1 A2 c2 c) (hc : caseB c = true) (hs : s < 2 ^ c.weights.length) :
    Calls Tryd.prog 95 #[.pointer (some ⟨gp, 0, none⟩), .int .u64 s] w fun e w' => e = .returned (.int .i64 (weightS c s)) ∧ Below w.heap.size w w' := by
  have hok := caseOk hc
  have hs12 := two12 hs hok.n2
  have HW := Lib.hid hok.w
  have hn2 := hok.n2
  have HB := Lib.hid (fun i (hi : i ∈ bitsOf s) => bits_lt hs hi)
  have HE := Lib.hid h
  have hgl := h.lt
  have hle0 := h.le
  have g0 := h.g0
  clear hok hc hs
  obtain ⟨n, hn⟩ : ∃ n, (bitsI s).length = n := ⟨_, rfl⟩
  have hll := bitsI_len s
  rw [hn] at hll
  have HLL := Lib.hid (bitsI_length s)
  have HN := Lib.hid hn
  clear hn
  go_enter Tryd.func95, Tryd.ntmps95
  go_wp2_with (go_at_call 65; refine (list_r s _ hs12 HE.out.tab HN.out).mono ?_; rintro e w1 ⟨Lb, lc, rfl, hlc, hI, hb1, _⟩)
  have hsz1 := hb1.size
  go_loop [4, 10] (fun vn vi => ∃ k : Nat, k ≤ n ∧ vi = .int .i64 k ∧ vn = .int .i64 (weightL c.weights ((bitsOf s).take k))) (fun _ vi => n - (intOf vi).toNat)
  case atStart => exact ⟨0, Nat.zero_le _, rfl, rfl⟩
  case round =>
    obtain ⟨k, hk, rfl, rfl⟩ := hrel
    have hbd := weightL_bd HW.out ((bitsOf s).take k) fun i hi => HB.out i (List.mem_of_mem_take hi)
    have htl : ((bitsOf s).take k).length ≤ k := List.length_take_le _ _
    have hS : 0 ≤ weightL c.weights ((bitsOf s).take k) ∧ weightL c.weights ((bitsOf s).take k) ≤ 12000 := by omega
    clear hbd
    by_cases hlt : k < n
    · obtain ⟨i, hi, him, hg⟩ := bitsI_at (s := s) (k := k) (by have := HN.out; omega)
      have hin := HB.out i him
      obtain ⟨xb, xo, rfl, hxb, x0⟩ := hI.at_ (k := k) (by have := HN.out; omega)
      rw [hg] at x0
      have HS := Lib.hid (weightL_snoc c.weights _ _ _ hi)
      obtain ⟨wb, wo, rfl, hwb, w0⟩ := HE.out.ca.ws.at_ (k := i) hin
      have hwi := HW.out i hin
      have m0 := (bcell hb1 wb (wo + i) (by omega)).trans w0
      have q0 := (bcell hb1 gp 0 hgl).trans g0
      clear hi him hg w0 htl
      generalize weightL c.weights ((bitsOf s).take k) = S at *
      generalize c.weights.getD i 0 = wi at *
      go_wp2_with fail
      go_round
      case rel => exact ⟨k + 1, by omega, by go_num, int_c HS.out.symm⟩
      case measure => simp [intOf]; omega
    · obtain rfl : k = n := by omega
      go_wp2_with fail
      go_ret
      exact ⟨ret_i (by rw [List.take_of_length_le (by rw [← HLL.out, HN.out]; exact Nat.le_refl _)]; rfl), hb1⟩
end Go.Proofs.YtonpemikodajdaaDoor

/- Frames as plain data, and what they read as in memory. -/
import Derived.Test.YtlbbhlkbhegegaaNet
namespace Go.Proofs.Ytlbbhlkbhegegaa
open Go.RowKit

structure MFrame where
  size : Int
  every : Int
  jitter : Int
  due : Int
  rank : Int
def frameV (f : MFrame) : Value := .agg #[.int .i64 f.size, .int .i64 f.every, .int .i64 f.jitter, .int .i64 f.due, .int .i64 f.rank]
def frameCell (l : List MFrame) (i j : Nat) : Value :=
  let f := l.getD i ⟨0, 0, 0, 0, 0⟩
  if j = 0 then .int .i64 f.size else if j = 1 then .int .i64 f.every else if j = 2 then .int .i64 f.jitter else if j = 3 then .int .i64 f.due else .int .i64 f.rank
def FramesA (w : World) (B : Nat) (A : Option Addr) (l : List MFrame) : Prop := l.length ≤ maxLen ∧ SlA w B 5 A l.length (frameCell l)
theorem FramesA.at_ {w : World} {B : Nat} {A : Option Addr} {l : List MFrame} (h : FramesA w B A l) {k : Nat} (hk : k < l.length) :
    ∃ f b off, l[k]? = some f ∧ A = some ⟨b, off, none⟩ ∧ b < B ∧ w.cell? ⟨b, off + k * 5, none⟩ = some (.int .i64 f.size) ∧ w.cell? ⟨b, off + k * 5 + 1, none⟩ = some (.int .i64 f.every) ∧
      w.cell? ⟨b, off + k * 5 + 2, none⟩ = some (.int .i64 f.jitter) ∧ w.cell? ⟨b, off + k * 5 + 3, none⟩ = some (.int .i64 f.due) ∧ w.cell? ⟨b, off + k * 5 + 4, none⟩ = some (.int .i64 f.rank) := by
  obtain ⟨b, off, hA, hlt, hc⟩ := h.2 (by omega)
  have c0 := hc k 0 hk (by omega)
  have c1 := hc k 1 hk (by omega)
  have c2 := hc k 2 hk (by omega)
  have c3 := hc k 3 hk (by omega)
  have c4 := hc k 4 hk (by omega)
  exact ⟨l[k], b, off, List.getElem?_eq_getElem hk, hA, hlt, by simpa [frameCell, hk] using c0, by simpa [frameCell, hk] using c1, by simpa [frameCell, hk] using c2, by simpa [frameCell, hk] using c3, by simpa [frameCell, hk] using c4⟩
theorem FramesA.below {w w' : World} {B B' : Nat} {A : Option Addr} {l : List MFrame} (h : FramesA w B A l) (hb : Below B' w w') (hB : B ≤ B') : FramesA w' B' A l := ⟨h.1, h.2.below hb hB⟩
theorem FramesA.more {w : World} {B B' : Nat} {A : Option Addr} {l : List MFrame} (h : FramesA w B A l) (hB : B ≤ B') : FramesA w B' A l := ⟨h.1, SlA.more h.2 hB⟩
theorem FramesA.keep {w w' : World} {B : Nat} {A : Option Addr} {l : List MFrame} (h : FramesA w B A l) (hb : Below B w w') : FramesA w' B A l := ⟨h.1, h.2.below hb (Nat.le_refl _)⟩
theorem FramesA.take {w : World} {B : Nat} {A : Option Addr} {l : List MFrame} (h : FramesA w B A l) (k : Nat) : FramesA w B A (l.take k) := by
  refine ⟨by rw [List.length_take]; have := h.1; omega, fun hn => ?_⟩
  rw [List.length_take] at hn
  obtain ⟨b, off, hA, hlt, hc⟩ := h.2 (by omega)
  refine ⟨b, off, hA, hlt, fun i j hi hj => ?_⟩
  rw [List.length_take] at hi
  rw [hc i j (by omega) hj]
  simp only [frameCell, List.getD_eq_getElem?_getD, List.getElem?_take, show i < k by omega, ↓reduceIte]

theorem inB_iff' {n lo hi : Int} : inB n lo hi = true ↔ lo ≤ n ∧ n ≤ hi := by simp [inB]
/-! ### when frames are valid -/
def numsB (f : MFrame) : Bool := inB f.size 1 1000 && inB f.every 1 100000 && inB f.due 1 100000 && inB f.jitter 0 100000 && inB f.rank 0 1000
def rankIn (l : List MFrame) (r : Int) : Bool := l.any fun g => g.rank == r
def frameOk (l : List MFrame) (i : Nat) : Bool := numsB (l.getD i ⟨0, 0, 0, 0, 0⟩) && !rankIn (l.take i) (l.getD i ⟨0, 0, 0, 0, 0⟩).rank
def framesB (l : List MFrame) : Bool := decide (l.length ≤ 40) && (List.range l.length).all (frameOk l)
theorem frameOk_of {l : List MFrame} {i : Nat} {f : MFrame} (h : l[i]? = some f) : frameOk l i = (numsB f && !rankIn (l.take i) f.rank) := by
  unfold frameOk
  rw [List.getD_eq_getElem?_getD, h]; rfl
theorem framesB_len {l : List MFrame} (h : 40 < l.length) : framesB l = false := by
  unfold framesB; rw [decide_eq_false (by omega)]; rfl
theorem framesB_no {l : List MFrame} {k : Nat} (hk : k < l.length) (h : frameOk l k = false) : framesB l = false := by
  unfold framesB; rw [range_no hk h]; simp
theorem framesB_yes {l : List MFrame} (h0 : l.length ≤ 40) (h : ∀ k, k < l.length → frameOk l k = true) : framesB l = true := by
  unfold framesB; rw [range_yes h, decide_eq_true h0]; rfl
theorem rankIn_hit {l : List MFrame} {k : Nat} {f : MFrame} {r : Int} (hf : l[k]? = some f) (h : f.rank = r) : rankIn l r = true := by
  unfold rankIn
  rw [List.any_eq_true]
  exact ⟨f, List.mem_of_getElem? hf, by simp [h]⟩
theorem rankIn_miss {l : List MFrame} {r : Int} (h : ∀ (j : Nat) (f : MFrame), j < l.length → l[j]? = some f → f.rank ≠ r) : rankIn l r = false := by
  unfold rankIn
  rw [List.any_eq_false]
  intro f hf
  obtain ⟨j, hj, rfl⟩ := List.mem_iff_getElem.1 hf
  simpa using h j _ hj (List.getElem?_eq_getElem hj)
theorem framesB_parts {l : List MFrame} (h : framesB l = true) : l.length ≤ 40 ∧ ∀ (k : Nat) (f : MFrame), l[k]? = some f → (1 ≤ f.size ∧ f.size ≤ 1000) ∧ (1 ≤ f.every ∧ f.every ≤ 100000) ∧ (1 ≤ f.due ∧ f.due ≤ 100000) ∧ (0 ≤ f.jitter ∧ f.jitter ≤ 100000) ∧ (0 ≤ f.rank ∧ f.rank ≤ 1000) := by
  unfold framesB at h
  rw [Bool.and_eq_true, List.all_eq_true] at h
  refine ⟨of_decide_eq_true h.1, fun k f hf => ?_⟩
  have hk : k < l.length := by
    rcases Nat.lt_or_ge k l.length with h1 | h1
    · exact h1
    · rw [List.getElem?_eq_none h1] at hf; cases hf
  have h1 := h.2 k (List.mem_range.2 hk)
  rw [frameOk_of hf, Bool.and_eq_true] at h1
  have h2 := h1.1
  unfold numsB at h2
  simp only [Bool.and_eq_true, inB_iff'] at h2
  exact ⟨h2.1.1.1.1, h2.1.1.1.2, h2.1.1.2, h2.1.2, h2.2⟩
end Go.Proofs.Ytlbbhlkbhegegaa

/- Grids and faults in memory; walks: within, from, node, lost, gone. -/
import Derived.Test.YtegclodchhcbaaaFw
import Derived.Test.YtegclodchhcbaaaPg
namespace Go.Proofs.Ytegclodchhcbaaa
open Go.RowKit

def lineCell (l : List MLine) (i j : Nat) : Value := if j = 0 then .int .i64 (l.getD i dLine).a else if j = 1 then .int .i64 (l.getD i dLine).b else if j = 2 then .int .i64 (l.getD i dLine).limit else .bool (l.getD i dLine).one
def srcCell (l : List MSrc) (i j : Nat) : Value := if j = 0 then .int .i64 (l.getD i dSrc).node else .int .i64 (l.getD i dSrc).power
def userCell (l : List MUser) (i j : Nat) : Value := if j = 0 then .int .i64 (l.getD i dUser).node else if j = 1 then .int .i64 (l.getD i dUser).power else .int .i64 (l.getD i dUser).level
def faultCell (l : List MFault) (i j : Nat) : Value := if j = 0 then .int .i64 (l.getD i dFault).kind else .int .i64 (l.getD i dFault).number
def LinesA (w : World) (B : Nat) (A : Option Addr) (l : List MLine) : Prop := l.length ≤ maxLen ∧ SlA w B 4 A l.length (lineCell l)
def SrcsA (w : World) (B : Nat) (A : Option Addr) (l : List MSrc) : Prop := l.length ≤ maxLen ∧ SlA w B 2 A l.length (srcCell l)
def UsersA (w : World) (B : Nat) (A : Option Addr) (l : List MUser) : Prop := l.length ≤ maxLen ∧ SlA w B 3 A l.length (userCell l)
def FaultsA (w : World) (B : Nat) (A : Option Addr) (l : List MFault) : Prop := l.length ≤ maxLen ∧ SlA w B 2 A l.length (faultCell l)
theorem SlA.more' {w : World} {B B' size n : Nat} {A : Option Addr} {f : Nat → Nat → Value} (h : SlA w B size A n f) (hB : B ≤ B') : SlA w B' size A n f := fun hn => by
  obtain ⟨b, off, hA, hlt, hc⟩ := h hn
  exact ⟨b, off, hA, by omega, hc⟩
theorem LinesA.below {w w' : World} {B B' : Nat} {A : Option Addr} {l : List MLine} (h : LinesA w B A l) (hb : Below B' w w') (hB : B ≤ B') : LinesA w' B' A l := ⟨h.1, h.2.below hb hB⟩
theorem SrcsA.below {w w' : World} {B B' : Nat} {A : Option Addr} {l : List MSrc} (h : SrcsA w B A l) (hb : Below B' w w') (hB : B ≤ B') : SrcsA w' B' A l := ⟨h.1, h.2.below hb hB⟩
theorem UsersA.below {w w' : World} {B B' : Nat} {A : Option Addr} {l : List MUser} (h : UsersA w B A l) (hb : Below B' w w') (hB : B ≤ B') : UsersA w' B' A l := ⟨h.1, h.2.below hb hB⟩
theorem FaultsA.below {w w' : World} {B B' : Nat} {A : Option Addr} {l : List MFault} (h : FaultsA w B A l) (hb : Below B' w w') (hB : B ≤ B') : FaultsA w' B' A l := ⟨h.1, h.2.below hb hB⟩
theorem LinesA.more {w : World} {B B' : Nat} {A : Option Addr} {l : List MLine} (h : LinesA w B A l) (hB : B ≤ B') : LinesA w B' A l := ⟨h.1, h.2.more' hB⟩
theorem SrcsA.more {w : World} {B B' : Nat} {A : Option Addr} {l : List MSrc} (h : SrcsA w B A l) (hB : B ≤ B') : SrcsA w B' A l := ⟨h.1, h.2.more' hB⟩
theorem UsersA.more {w : World} {B B' : Nat} {A : Option Addr} {l : List MUser} (h : UsersA w B A l) (hB : B ≤ B') : UsersA w B' A l := ⟨h.1, h.2.more' hB⟩
theorem FaultsA.more {w : World} {B B' : Nat} {A : Option Addr} {l : List MFault} (h : FaultsA w B A l) (hB : B ≤ B') : FaultsA w B' A l := ⟨h.1, h.2.more' hB⟩
theorem FaultsA.keep {w w' : World} {B : Nat} {A : Option Addr} {l : List MFault} (h : FaultsA w B A l) (hb : Below B w w') : FaultsA w' B A l := h.below hb (Nat.le_refl _)
theorem LinesA.at_ {w : World} {B : Nat} {A : Option Addr} {l : List MLine} (h : LinesA w B A l) {k : Nat} (hk : k < l.length) :
    ∃ f b off, l.getD k dLine = f ∧ A = some ⟨b, off, none⟩ ∧ b < B ∧ w.cell? ⟨b, off + k * 4, none⟩ = some (.int .i64 f.a) ∧ w.cell? ⟨b, off + k * 4 + 1, none⟩ = some (.int .i64 f.b) ∧ w.cell? ⟨b, off + k * 4 + 2, none⟩ = some (.int .i64 f.limit) ∧ w.cell? ⟨b, off + k * 4 + 3, none⟩ = some (.bool f.one) := by
  obtain ⟨b, off, hA, hlt, hc⟩ := h.2 (by omega)
  exact ⟨_, b, off, rfl, hA, hlt, hc k 0 hk (by omega), hc k 1 hk (by omega), hc k 2 hk (by omega), hc k 3 hk (by omega)⟩
theorem SrcsA.at_ {w : World} {B : Nat} {A : Option Addr} {l : List MSrc} (h : SrcsA w B A l) {k : Nat} (hk : k < l.length) :
    ∃ f b off, l.getD k dSrc = f ∧ A = some ⟨b, off, none⟩ ∧ b < B ∧ w.cell? ⟨b, off + k * 2, none⟩ = some (.int .i64 f.node) ∧ w.cell? ⟨b, off + k * 2 + 1, none⟩ = some (.int .i64 f.power) := by
  obtain ⟨b, off, hA, hlt, hc⟩ := h.2 (by omega)
  exact ⟨_, b, off, rfl, hA, hlt, hc k 0 hk (by omega), hc k 1 hk (by omega)⟩
theorem UsersA.at_ {w : World} {B : Nat} {A : Option Addr} {l : List MUser} (h : UsersA w B A l) {k : Nat} (hk : k < l.length) :
    ∃ f b off, l.getD k dUser = f ∧ A = some ⟨b, off, none⟩ ∧ b < B ∧ w.cell? ⟨b, off + k * 3, none⟩ = some (.int .i64 f.node) ∧ w.cell? ⟨b, off + k * 3 + 1, none⟩ = some (.int .i64 f.power) ∧ w.cell? ⟨b, off + k * 3 + 2, none⟩ = some (.int .i64 f.level) := by
  obtain ⟨b, off, hA, hlt, hc⟩ := h.2 (by omega)
  exact ⟨_, b, off, rfl, hA, hlt, hc k 0 hk (by omega), hc k 1 hk (by omega), hc k 2 hk (by omega)⟩
theorem FaultsA.at_ {w : World} {B : Nat} {A : Option Addr} {l : List MFault} (h : FaultsA w B A l) {k : Nat} (hk : k < l.length) :
    ∃ f b off, l.getD k dFault = f ∧ A = some ⟨b, off, none⟩ ∧ b < B ∧ w.cell? ⟨b, off + k * 2, none⟩ = some (.int .i64 f.kind) ∧ w.cell? ⟨b, off + k * 2 + 1, none⟩ = some (.int .i64 f.number) := by
  obtain ⟨b, off, hA, hlt, hc⟩ := h.2 (by omega)
  exact ⟨_, b, off, rfl, hA, hlt, hc k 0 hk (by omega), hc k 1 hk (by omega)⟩
theorem getD_mem_of {α : Type} {l : List α} {k : Nat} (hk : k < l.length) (d : α) : l.getD k d ∈ l := by
  rw [List.getD_eq_getElem?_getD, List.getElem?_eq_getElem hk]
  exact List.getElem_mem _
def isB (f : MFault) (kind number : Int) : Bool := f.kind == kind && f.number == number
theorem lost_hit {F : List MFault} {kind number : Int} {k : Nat} (hk : k < F.length) (h : isB (F.getD k dFault) kind number = true) : lostB F kind number = true :=
  List.any_eq_true.2 ⟨_, getD_mem_of hk dFault, h⟩
theorem lost_miss {F : List MFault} {kind number : Int} (h : ∀ k, k < F.length → isB (F.getD k dFault) kind number = false) : lostB F kind number = false := by
  rw [Bool.eq_false_iff]
  intro ht
  obtain ⟨f, hf, h2⟩ := List.any_eq_true.1 ht
  obtain ⟨k, hk, rfl⟩ := List.mem_iff_getElem.1 hf
  have := h k hk
  rw [List.getD_eq_getElem?_getD, List.getElem?_eq_getElem hk] at this
  unfold isB at this
  simp only [Option.getD_some] at this
  rw [this] at h2
  cases h2
theorem miss_step {F : List MFault} {kind number : Int} {i : Nat} (h : ∀ k, k < i → isB (F.getD k dFault) kind number = false) (hi : isB (F.getD i dFault) kind number = false) (k : Nat) (hk : k < i + 1) : isB (F.getD k dFault) kind number = false := by
  by_cases e : k = i
  · rw [e]; exact hi
  · exact h k (by omega)
theorem beq_comm_i (a b : Int) : (a == b) = (b == a) := by
  rw [Bool.eq_iff_iff]
  simp only [beq_iff_eq]
  exact ⟨Eq.symm, Eq.symm⟩
set_option maxRecDepth 100000 in
theorem within_any (n low high : Int) (w : World) {b : Bool} (hb : inB n low high = b) : Calls Try.prog 69 #[.int .i64 n, .int .i64 low, .int .i64 high] w fun e w' => e = .returned (.bool b) ∧ w = w' := by
  subst hb
  unfold inB
  rcases h1 : decide (low ≤ n) <;> rcases h2 : decide (n ≤ high)
  all_goals
    first | replace h1 := of_decide_eq_true h1 | replace h1 := of_decide_eq_false h1
    first | replace h2 := of_decide_eq_true h2 | replace h2 := of_decide_eq_false h2
    go_enter Try.func69, Try.ntmps69
    go_wp2_with fail
    go_ret
    exact ⟨rfl, rfl⟩
set_option maxRecDepth 100000 in
theorem from_any (n low high : Int) (w : World) {b : Bool} (hb : inB n low high = b) : Calls Try.prog 71 #[.int .i64 n, .int .i64 low, .int .i64 high] w fun e w' => e = .returned (.bool b) ∧ w = w' := by
  subst hb
  unfold inB
  rcases h1 : decide (low ≤ n) <;> rcases h2 : decide (n ≤ high)
  all_goals
    first | replace h1 := of_decide_eq_true h1 | replace h1 := of_decide_eq_false h1
    first | replace h2 := of_decide_eq_true h2 | replace h2 := of_decide_eq_false h2
    go_enter Try.func71, Try.ntmps71
    go_wp2_with fail
    go_ret
    exact ⟨rfl, rfl⟩
set_option maxRecDepth 100000 in
theorem rlost_any (A : Option Addr) (cap : Nat) (F : List MFault) (kind number : Int) (w : World) (h : FaultsA w w.heap.size A F) {b : Bool} (hb : lostB F kind number = b) :
    Calls Try.prog 96 #[.slice A F.length cap, .int .i64 kind, .int .i64 number] w fun e w' => e = .returned (.bool b) ∧ w = w' := by
  have hl := h.1
  unfold maxLen at hl
  have HF := Lib.hid h
  have HB := Lib.hid hb
  clear h hb
  go_enter Try.func96, Try.ntmps96
  go_wp2_with fail
  go_loopw [7] (fun vi wr => ∃ i : Nat, i ≤ F.length ∧ vi = .int .i64 i ∧ wr = w ∧ Hid (∀ k, k < i → isB (F.getD k dFault) kind number = false)) (fun vi _ => F.length - (intOf vi).toNat)
  case atStart => exact ⟨0, Nat.zero_le _, rfl, rfl, fun k hk => absurd hk (Nat.not_lt_zero _)⟩
  case round =>
    obtain ⟨i, hi, rfl, rfl, HN⟩ := hrel
    by_cases hlt : i < F.length
    · obtain ⟨f, b2, off, hf, rfl, hb2, c0, c1⟩ := HF.out.at_ hlt
      have HLT := Lib.hid hlt
      have hI : isB (F.getD i dFault) kind number = (f.kind == kind && f.number == number) := by rw [hf]; rfl
      rcases h1 : (f.kind == kind) <;> rcases h2 : (f.number == number)
      all_goals
        rw [h1, h2] at hI
        have HI := Lib.hid hI
        clear hI
        go_wp2_with fail
        first
          | (go_roundw
             case rel => exact ⟨i + 1, HLT.out, by go_num, trivial, miss_step HN.out HI.out⟩
             case measure => simp [intOf]; have := HLT.out; omega)
          | (go_ret
             exact ⟨ret_b (by rw [← HB.out, lost_hit HLT.out HI.out]), rfl⟩)
    · obtain rfl : i = F.length := by omega
      have hfin := lost_miss HN.out
      go_wp2_with fail
      go_ret
      exact ⟨ret_b (by rw [← HB.out, hfin]), rfl⟩
set_option maxRecDepth 100000 in
theorem rgone_any (A : Option Addr) (cap : Nat) (F : List MFault) (n : Int) (w : World) (h : FaultsA w w.heap.size A F) {b : Bool} (hb : lostB F 3 n = b) :
    Calls Try.prog 97 #[.slice A F.length cap, .int .i64 n] w fun e w' => e = .returned (.bool b) ∧ w = w' := by
  have HC := Lib.hid (rlost_any A cap F 3 n w h hb)
  clear h hb
  go_enter Try.func97, Try.ntmps97
  go_wp2_with (go_at_call 96; refine HC.out.mono ?_; rintro e w2 ⟨rfl, rfl⟩)
  go_ret
  exact ⟨rfl, rfl⟩
set_option maxRecDepth 100000 in
theorem index_any (A : Option Addr) (cap : Nat) (F : List MFault) (kind number : Int) (w : World) (h : FaultsA w w.heap.size A F) {b : Bool} (hb : lostB F kind number = b) :
    Calls Try.prog 101 #[.slice A F.length cap, .agg #[.int .i64 kind, .int .i64 number]] w fun e w' => (∃ n, e = .returned (.int .i64 n) ∧ decide (0 ≤ n) = b) ∧ Below w.heap.size w w' := by
  have hl := h.1
  unfold maxLen at hl
  have HF : Hid (∀ W, Below w.heap.size w W → FaultsA W w.heap.size A F) := fun W hW => h.keep hW
  have HB := Lib.hid hb
  obtain ⟨w1, hw1⟩ : ∃ w1, w.alloc (.cells #[.int .i64 kind, .int .i64 number] 41) = w1 := ⟨_, rfl⟩
  have hb1 : Below w.heap.size w w1 := by rw [← hw1]; exact (Below.refl _ _).alloc (Nat.le_refl _) _
  have hh1 : w1.heap[w.heap.size]? = some (.cells #[.int .i64 kind, .int .i64 number] 41 (0, 0)) := by rw [← hw1]; exact heap_alloc_new w _
  have hs1 : w1.heap.size = w.heap.size + 1 := by rw [← hw1]; simp
  have HH : Hid (∀ W, Below w1.heap.size w1 W → W.cell? ⟨w.heap.size, 0, none⟩ = some (.int .i64 kind) ∧ W.cell? ⟨w.heap.size, 1, none⟩ = some (.int .i64 number)) := fun W hW => by
    have := (hW.block _ (by omega)).trans hh1
    exact ⟨cell_of_row W _ 0 _ _ _ this, cell_of_row W _ 1 _ _ _ this⟩
  have HB1 := Lib.hid hb1
  clear h hb hh1 hb1
  go_enter Try.func101, Try.ntmps101
  go_wp2_with fail
  go_loopw [8] (fun vi wr => ∃ i : Nat, i ≤ F.length ∧ vi = .int .i64 i ∧ Hid (Below w1.heap.size w1 wr) ∧ Hid (∀ k, k < i → isB (F.getD k dFault) kind number = false)) (fun vi _ => F.length - (intOf vi).toNat)
  case atStart => exact ⟨0, Nat.zero_le _, rfl, Below.refl _ _, fun k hk => absurd hk (Nat.not_lt_zero _)⟩
  case round =>
    obtain ⟨i, hi, rfl, HBR, HN⟩ := hrel
    rename World => wr
    have HBW : Hid (Below w.heap.size w wr) := HB1.out.trans (HBR.out.mono (by omega))
    by_cases hlt : i < F.length
    · obtain ⟨f, b2, off, hf, rfl, hb2, c0, c1⟩ := (HF.out wr HBW.out).at_ hlt
      obtain ⟨d0, d1⟩ := HH.out wr HBR.out
      have HLT := Lib.hid hlt
      have hI : isB (F.getD i dFault) kind number = (kind == f.kind && number == f.number) := by rw [hf, beq_comm_i kind, beq_comm_i number]; rfl
      rcases h1 : (kind == f.kind) <;> rcases h2 : (number == f.number)
      all_goals
        rw [h1, h2] at hI
        have HI := Lib.hid hI
        clear hI
        go_wp2_with fail
        go_quiet (fail)
        have HBR2 := Lib.hid (bdrw HBR.out nq)
        have HBW2 := Lib.hid (bdrw HBW.out nq)
        generalize wr.drewN nq = w2 at *
        go_wp2_with fail
        first
          | (go_roundw
             case rel => exact ⟨i + 1, HLT.out, by go_num, HBR2, miss_step HN.out HI.out⟩
             case measure => simp [intOf]; have := HLT.out; omega)
          | (go_ret
             exact ⟨⟨_, rfl, by rw [← HB.out, lost_hit HLT.out HI.out]; exact decide_eq_true (by omega)⟩, HBW2.out⟩)
    · obtain rfl : i = F.length := by omega
      have hfin := lost_miss HN.out
      go_wp2_with fail
      go_ret
      exact ⟨⟨_, rfl, by rw [← HB.out, hfin]; rfl⟩, HBW.out⟩
set_option maxRecDepth 100000 in
theorem contains_any (A : Option Addr) (cap : Nat) (F : List MFault) (kind number : Int) (w : World) (h : FaultsA w w.heap.size A F) {b : Bool} (hb : lostB F kind number = b) :
    Calls Try.prog 86 #[.slice A F.length cap, .agg #[.int .i64 kind, .int .i64 number]] w fun e w' => e = .returned (.bool b) ∧ Below w.heap.size w w' := by
  have hb1 : Below w.heap.size w (w.alloc (.cells #[.int .i64 kind, .int .i64 number] 41)) := (Below.refl _ _).alloc (Nat.le_refl _) _
  have HC := Lib.hid (index_any A cap F kind number _ ((h.keep hb1).more hb1.size) hb)
  have HB1 := Lib.hid hb1
  clear h hb hb1
  go_enter Try.func86, Try.ntmps86
  go_wp2_with (go_at_call 101; refine HC.out.mono ?_; rintro e w2 ⟨⟨n, rfl, hn⟩, hb2⟩; have HB2 := Lib.hid (HB1.out.trans (hb2.mono HB1.out.size)); clear hb2)
  go_ret
  exact ⟨rfl, HB2.out⟩
set_option maxRecDepth 100000 in
theorem lost_any (A : Option Addr) (cap : Nat) (F : List MFault) (kind number : Int) (w : World) (h : FaultsA w w.heap.size A F) {b : Bool} (hb : lostB F kind number = b) :
    Calls Try.prog 95 #[.slice A F.length cap, .int .i64 kind, .int .i64 number] w fun e w' => e = .returned (.bool b) ∧ Below w.heap.size w w' := by
  have HC := Lib.hid (contains_any A cap F kind number w h hb)
  clear h hb
  go_enter Try.func95, Try.ntmps95
  go_wp2_with (go_at_call 86; refine HC.out.mono ?_; rintro e w2 ⟨rfl, hb2⟩)
  go_ret
  exact ⟨rfl, hb2⟩
end Go.Proofs.Ytegclodchhcbaaa

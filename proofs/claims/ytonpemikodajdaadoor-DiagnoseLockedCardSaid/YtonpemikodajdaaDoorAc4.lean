/- Requests and replies in memory; walk: diagnose.Talk. -/
import Derived.Test.YtonpemikodajdaaDoorAc3
import Derived.Test.YtonpemikodajdaaDoorLaws
namespace Go.Proofs.YtonpemikodajdaaDoor
open Go.RowKit

def dReq : MReq := ⟨0, 0, 0⟩
def reqCell (l : List MReq) (i j : Nat) : Value := if j = 0 then .int .i64 (l.getD i dReq).at_ else if j = 1 then .int .i64 (l.getD i dReq).serv else .int .i64 (l.getD i dReq).val
def ReqsA (w : World) (B : Nat) (A : Option Addr) (l : List MReq) : Prop := l.length ≤ maxLen ∧ SlA w B 3 A l.length (reqCell l)
theorem ReqsA.at_ {w : World} {B : Nat} {A : Option Addr} {l : List MReq} (h : ReqsA w B A l) {k : Nat} (hk : k < l.length) :
    ∃ f b off, l[k]? = some f ∧ A = some ⟨b, off, none⟩ ∧ b < B ∧ w.cell? ⟨b, off + k * 3, none⟩ = some (.int .i64 f.at_) ∧ w.cell? ⟨b, off + k * 3 + 1, none⟩ = some (.int .i64 f.serv) ∧ w.cell? ⟨b, off + k * 3 + 2, none⟩ = some (.int .i64 f.val) := by
  obtain ⟨b, off, hA, hlt, hc⟩ := h.2 (by omega)
  have c0 := hc k 0 hk (by omega)
  have c1 := hc k 1 hk (by omega)
  have c2 := hc k 2 hk (by omega)
  exact ⟨l[k], b, off, List.getElem?_eq_getElem hk, hA, hlt, by simpa [reqCell, hk] using c0, by simpa [reqCell, hk] using c1, by simpa [reqCell, hk] using c2⟩
theorem ReqsA.below {w w' : World} {B B' : Nat} {A : Option Addr} {l : List MReq} (h : ReqsA w B A l) (hb : Below B' w w') (hB : B ≤ B') : ReqsA w' B' A l := ⟨h.1, h.2.below hb hB⟩
theorem ReqsA.more {w : World} {B B' : Nat} {A : Option Addr} {l : List MReq} (h : ReqsA w B A l) (hB : B ≤ B') : ReqsA w B' A l := ⟨h.1, h.2.more hB⟩
theorem ReqsA.keep {w w' : World} {B : Nat} {A : Option Addr} {l : List MReq} (h : ReqsA w B A l) (hb : Below B w w') : ReqsA w' B A l := h.below hb (Nat.le_refl _)
/-- replies: codes and values -/
def cells2 (p : Int × Int) : List Value := [.int .i64 p.1, .int .i64 p.2]
def OutR (w : World) (base : Nat) (v : Value) (l : List (Int × Int)) : Prop := w.ownsRow base 76 2 v l.length (l.flatMap cells2)
theorem OutR.nil (w : World) (base : Nat) : OutR w base (.slice none 0 0) [] := World.ownsRow_nil w base 76 2
theorem OutR.keep {w w' : World} {base : Nat} {v : Value} {l : List (Int × Int)} (h : OutR w base v l) (hh : ∀ g, base ≤ g → g < w.heap.size → w'.heap[g]? = w.heap[g]?) : OutR w' base v l := by
  have hlt := own_block_lt h
  obtain ⟨h1, h2⟩ := h
  refine ⟨h1, ?_⟩
  rcases h2 with h2 | ⟨g, cap, cur, hv, hg, hb, r⟩
  · exact .inl h2
  · exact .inr ⟨g, cap, cur, hv, hg, (hh g hg (hlt g (by rw [hv]; rfl)).2).trans hb, r⟩
theorem OutR.lenV {w : World} {base : Nat} {v : Value} {l : List (Int × Int)} (h : OutR w base v l) : ∃ A cap, v = .slice A l.length cap ∧ l.length ≤ cap := by
  obtain ⟨_, h1⟩ := h
  rcases h1 with ⟨hv, h0⟩ | ⟨g, cap, cur, hv, hb, hh, hn, r⟩
  · exact ⟨none, 0, by rw [hv, h0], by omega⟩
  · exact ⟨_, cap, hv, hn⟩
theorem cells2_len (K : List (Int × Int)) : (K.flatMap cells2).length = K.length * 2 := by
  induction K with
  | nil => rfl
  | cons p r ih => rw [List.flatMap_cons, List.length_append, ih, List.length_cons]; show 2 + _ = _; omega
theorem cells2_at {K : List (Int × Int)} {i j : Nat} {p : Int × Int} (hp : K[i]? = some p) (hj : j < 2) : (K.flatMap cells2)[i * 2 + j]? = (cells2 p)[j]? := by
  induction K generalizing i with
  | nil => cases hp
  | cons q r ih =>
    rw [List.flatMap_cons]
    cases i with
    | zero =>
      simp only [List.getElem?_cons_zero, Option.some.injEq] at hp
      subst hp
      rw [List.getElem?_append_left (by show _ < 2; omega)]
      congr 1; omega
    | succ i =>
      rw [List.getElem?_append_right (by show 2 ≤ _; omega)]
      rw [show (i + 1) * 2 + j - (cells2 q).length = i * 2 + j by show _ - 2 = _; omega]
      exact ih (by simpa using hp)
/-- a reply read where it lies -/
theorem OutR.at_ {w : World} {base : Nat} {v : Value} {l : List (Int × Int)} (h : OutR w base v l) {k : Nat} (hk : k < l.length) :
    ∃ p g cap, l[k]? = some p ∧ v = .slice (some ⟨g, 0, none⟩) l.length cap ∧ base ≤ g ∧ g < w.heap.size ∧ w.cell? ⟨g, k * 2, none⟩ = some (.int .i64 p.1) ∧ w.cell? ⟨g, k * 2 + 1, none⟩ = some (.int .i64 p.2) := by
  have hlt := own_block_lt h
  obtain ⟨h1, h2⟩ := id h
  rcases h2 with ⟨_, h0⟩ | ⟨g, cap, cur, hv, hg, hb, r⟩
  · omega
  · subst hv
    have hp : l[k]? = some l[k] := List.getElem?_eq_getElem hk
    have e0 := World.ownsRow.cellAt (show w.ownsRow base 76 2 (.slice (some ⟨g, 0, none⟩) l.length cap) l.length (l.flatMap cells2) from h) (k * 2 + 0) (by omega)
    have e1 := World.ownsRow.cellAt (show w.ownsRow base 76 2 (.slice (some ⟨g, 0, none⟩) l.length cap) l.length (l.flatMap cells2) from h) (k * 2 + 1) (by omega)
    rw [cells2_at hp (by decide)] at e0 e1
    exact ⟨l[k], g, cap, hp, rfl, hg, (hlt g rfl).2, e0, e1⟩
theorem info_rep : (Tryd.prog.info? 76).map (fun i => (i.zero, i.size, i.bytes)) = some (some (.agg #[.int .i64 0, .int .i64 0]), 2, 16) := by kernel_rfl
theorem under_reps : Tryd.prog.underlying 72 = some (.slice 76) := by kernel_rfl
section
variable {ops : Array Oper} {rest : List Oper} {o : Oper} {a : Act} {Q : Exit → Act → World → Prop}
theorem app_rep (w : World) (hg : o.guard = none) (s x : Operand) (ho : o.op = .call { callee := .builtin .append, args := #[s, x], argTypes := #[72, 72] }) (base : Nat) (v : Value) (l : List (Int × Int))
    (hs : a.eval s = v) (hown : OutR w base v l) (nb : Nat) (hx : a.eval x = .slice (some ⟨nb, 0, none⟩) 1 1) (p : Int × Int) (hc0 : w.cell? ⟨nb, 0, none⟩ = some (.int .i64 p.1)) (hc1 : w.cell? ⟨nb, 1, none⟩ = some (.int .i64 p.2)) (hlen : l.length ≤ 1000000) (hbase : base ≤ w.heap.size)
    (hK : ∀ v' w', OutR w' base v' (l ++ [p]) → w.grownBy w' v.ownBlock → wpList Tryd.prog ops Q rest (a.put o.dst v') w') : wpList Tryd.prog ops Q (o :: rest) a w := by
  obtain ⟨i0, hi, hz0, hz1, hz2⟩ := info_parts info_rep
  refine wpList_append_own w hg s x 72 ho base 76 i0 _ 2 16 under_reps hi hz0 hz1 hz2 rfl (by decide) v l.length _ hs hown ⟨nb, 0, none⟩ 1 1 (cells2 p) hx rfl ?_ ?_ (by unfold maxLen; omega) (by omega) hbase (fun v' w' h1 h2 _ => hK v' w' ?_ h2)
  · intro j u hj
    rw [add_none0, Nat.zero_add]
    match j, hj with
    | 0, hj => exact hc0.trans hj
    | 1, hj => exact hc1.trans hj
    | j + 2, hj => cases hj
  · intro u hu
    unfold cells2 at hu
    simp only [List.mem_cons, List.not_mem_nil, or_false] at hu
    rcases hu with rfl | rfl <;> rfl
  · unfold OutR
    rw [List.flatMap_append, List.length_append]
    simpa using h1
end
/-- the times rise, and are not too great -/
def timesG : Int → List MReq → Bool
  | _, [] => true
  | t, r :: rs => inB r.at_ t 1000000 && timesG r.at_ rs
def lastAt (l : List MReq) : Nat → Int
  | 0 => 0
  | k + 1 => (l.getD k dReq).at_
theorem timesG_step {l : List MReq} {k : Nat} {r : MReq} (hr : l[k]? = some r) : timesG (lastAt l k) (l.drop k) = (inB r.at_ (lastAt l k) 1000000 && timesG (lastAt l (k + 1)) (l.drop (k + 1))) ∧ lastAt l (k + 1) = r.at_ := by
  have hk : k < l.length := (List.getElem?_eq_some_iff.1 hr).1
  have e1 : l.getD k dReq = r := by rw [List.getD_eq_getElem?_getD, hr]; rfl
  have e : lastAt l (k + 1) = r.at_ := by show (l.getD k dReq).at_ = _; rw [e1]
  refine ⟨?_, e⟩
  rw [e, List.drop_eq_getElem_cons hk, (List.getElem?_eq_some_iff.1 hr).2]
  rfl
def runS (a : MAcc) : MComp → List MReq → List (Int × Int)
  | _, [] => []
  | c, r :: rs => (answerS a c r).2 :: runS a (answerS a c r).1 rs
def compAt (a : MAcc) (c : MComp) (l : List MReq) : Nat → MComp
  | 0 => c
  | k + 1 => (answerS a (compAt a c l k) (l.getD k dReq)).1
def comp0 : MComp := ⟨0, false, -1, 0, 0, 0, 0⟩
theorem runS_len (a : MAcc) (l : List MReq) : ∀ c, (runS a c l).length = l.length := by
  induction l with
  | nil => intro c; rfl
  | cons r rs ih => intro c; show _ + 1 = _ + 1; rw [ih]
theorem compAt_succ (a : MAcc) (r : MReq) (rs : List MReq) (c : MComp) : ∀ k, compAt a c (r :: rs) (k + 1) = compAt a (answerS a c r).1 rs k := by
  intro k
  induction k with
  | zero => rfl
  | succ k ih =>
    show (answerS a (compAt a c (r :: rs) (k + 1)) ((r :: rs).getD (k + 1) dReq)).1 = _
    rw [ih]
    rfl
theorem runS_at (a : MAcc) : ∀ (l : List MReq) (c : MComp) (k : Nat) (r : MReq), l[k]? = some r → (runS a c l)[k]? = some (answerS a (compAt a c l k) r).2
  | [], _, _, _, h => by cases h
  | r' :: rs, c, 0, r, h => by injection h with h; subst h; rfl
  | r' :: rs, c, k + 1, r, h => by
    rw [compAt_succ]
    exact runS_at a rs _ k r h
theorem runS_take (a : MAcc) (c : MComp) (l : List MReq) {k : Nat} {r : MReq} (h : l[k]? = some r) : (runS a c l).take (k + 1) = (runS a c l).take k ++ [(answerS a (compAt a c l k) r).2] := by
  have h1 := runS_at a l c k r h
  rw [List.take_add_one, h1]; rfl
structure CompOk (N : Int) (c : MComp) : Prop where
  seed : c.seed ≤ 65535
  wrong : 0 ≤ c.wrong ∧ c.wrong ≤ N
  seeds : 0 ≤ c.seeds ∧ c.seeds ≤ N
  last : 0 ≤ c.last ∧ c.last ≤ 1000000
theorem CompOk.step {N : Int} {a : MAcc} {c : MComp} {r : MReq} (h : CompOk N c) (hN : 0 ≤ N) (ht : 0 ≤ r.at_ ∧ r.at_ ≤ 1000000) : CompOk (N + 1) (answerS a c r).1 := by
  have hl : CompOk N { lateS a c r with last := r.at_ } := by
    unfold lateS resetS
    split
    · exact ⟨(by decide : (-1 : Int) ≤ 65535), h.wrong, h.seeds, ht⟩
    · exact ⟨h.seed, h.wrong, h.seeds, ht⟩
  unfold answerS
  generalize ({ lateS a c r with last := r.at_ } : MComp) = d at *
  have up : CompOk (N + 1) d := ⟨hl.seed, by have := hl.wrong; omega, by have := hl.seeds; omega, hl.last⟩
  have hm := Int.emod_lt_of_pos (d.seeds * 7919 + 13) (show (0 : Int) < 65536 by decide)
  unfold bodyS
  split
  · unfold changeS resetS
    repeat' split
    all_goals exact ⟨by first | exact up.seed | exact (by decide : (-1 : Int) ≤ 65535), up.wrong, up.seeds, up.last⟩
  · split
    · split
      · exact up
      · split
        · exact up
        · split
          · unfold tryS
            have hw := hl.wrong
            split
            · exact up
            · split
              · exact ⟨(by decide : (-1 : Int) ≤ 65535), (by show (0 : Int) ≤ 0 ∧ (0 : Int) ≤ N + 1; omega), up.seeds, up.last⟩
              · split
                · exact ⟨(by decide : (-1 : Int) ≤ 65535), (by show (0 : Int) ≤ 0 ∧ (0 : Int) ≤ N + 1; omega), up.seeds, up.last⟩
                · exact ⟨(by decide : (-1 : Int) ≤ 65535), (by show 0 ≤ d.wrong + 1 ∧ d.wrong + 1 ≤ N + 1; omega), up.seeds, up.last⟩
          · exact ⟨by show (d.seeds * 7919 + 13) % 65536 ≤ 65535; omega, up.wrong, by have := hl.seeds; show 0 ≤ d.seeds + 1 ∧ d.seeds + 1 ≤ N + 1; omega, up.last⟩
    · repeat' split
      all_goals exact up
theorem comp0_ok : CompOk 0 comp0 := ⟨by decide, by decide, by decide, by decide⟩
theorem compAt_ok {a : MAcc} {l : List MReq} (ht : ∀ (k : Nat) (r : MReq), l[k]? = some r → 0 ≤ r.at_ ∧ r.at_ ≤ 1000000) : ∀ k : Nat, k ≤ l.length → CompOk k (compAt a comp0 l k)
  | 0, _ => comp0_ok
  | k + 1, hk => by
    have hr : l[k]? = some l[k] := List.getElem?_eq_getElem (by omega)
    have h := (compAt_ok (a := a) ht k (by omega)).step (a := a) (r := l[k]) (by omega) (ht k _ hr)
    have e : l.getD k dReq = l[k] := by rw [List.getD_eq_getElem?_getD, hr]; rfl
    show CompOk ((k + 1 : Nat) : Int) (answerS a (compAt a comp0 l k) (l.getD k dReq)).1
    rw [e]
    push_cast
    exact h
theorem timesG_all : ∀ (l : List MReq) (t : Int), 0 ≤ t → timesG t l = true → ∀ (k : Nat) (r : MReq), l[k]? = some r → 0 ≤ r.at_ ∧ r.at_ ≤ 1000000
  | [], _, _, _, k, r, h => by cases h
  | r' :: rs, t, ht, h, k, r, hr => by
    unfold timesG at h
    rw [Bool.and_eq_true, inB_iff'] at h
    cases k with
    | zero => injection hr with hr; subst hr; omega
    | succ k => exact timesG_all rs r'.at_ (by omega) h.2 k r hr
end Go.Proofs.YtonpemikodajdaaDoor

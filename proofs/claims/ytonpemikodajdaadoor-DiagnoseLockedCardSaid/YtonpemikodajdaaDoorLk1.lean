/- Plain: what DiagnoseLocked remembers of a computer. -/
import Derived.Test.YtonpemikodajdaaDoorAc5
namespace Go.Proofs.YtonpemikodajdaaDoor

theorem neg1 : ¬ (0 : Int) ≤ -1 := by decide
/-- what the law remembers: opened, seed, wrong, until -/
structure MLock where
  op : Bool
  sd : Int
  wr : Int
  un : Int
structure LockI (c : MComp) (m : MLock) : Prop where
  op : c.unl = true → m.op = true ∧ c.ses ≠ 0
  sd : 0 ≤ c.seed → m.sd = c.seed
  wr : m.wr = c.wrong
  un : m.un = c.til
/-- behind a long time -/
def lateL (a : MAcc) (m : MLock) (r : MReq) (p : Int) : MLock := if a.idle < r.at_ - p then { m with op := false } else m
theorem LockI.late {a : MAcc} {c : MComp} {m : MLock} {r : MReq} (h : LockI c m) : LockI { lateS a c r with last := r.at_ } (lateL a m r c.last) := by
  unfold lateS lateL resetS
  by_cases h1 : a.idle < r.at_ - c.last
  · by_cases h2 : c.ses ≠ 0
    · rw [if_pos ⟨h2, h1⟩, if_pos h1]
      exact ⟨fun e => (by cases e), fun e => absurd e neg1, h.wr, h.un⟩
    · rw [if_neg (fun e => h2 e.1), if_pos h1]
      exact ⟨fun e => absurd (h.op e).2 h2, h.sd, h.wr, h.un⟩
  · rw [if_neg (fun e => h1 e.2), if_neg h1]
    exact ⟨h.op, h.sd, h.wr, h.un⟩
/-- one request's reply, as the law looks at it -/
inductive LockP (a : MAcc) (m : MLock) (r : MReq) (p : Int × Int) (m' : MLock) : Prop where
  | zero (h1 : r.serv = 1) (h2 : p.1 = 0) (h3 : r.val = 0) (e : m' = { m with op := false })
  | two (h1 : r.serv = 1) (h2 : p.1 = 0) (h3 : r.val = 2) (ho : m.op = true) (e : m' = m)
  | one (h1 : r.serv = 1) (h2 : p.1 = 0) (h3 : r.val ≠ 0) (h4 : r.val ≠ 2) (e : m' = m)
  | none (h : (r.serv = 1 ∨ r.serv = 2 ∨ r.serv = 4) ∧ p.1 ≠ 0 ∨ (r.serv = 3 ∧ p.1 ≠ 0 ∧ p.1 ≠ 2) ∨ (r.serv ≠ 1 ∧ r.serv ≠ 2 ∧ r.serv ≠ 3 ∧ r.serv ≠ 4)) (e : m' = m)
  | give (h1 : r.serv = 2) (h2 : p.1 = 0) (h3 : m.un ≤ r.at_) (e : m' = { m with sd := p.2 })
  | right (h1 : r.serv = 3) (h2 : p.1 = 0) (h3 : m.un ≤ r.at_) (h4 : 0 ≤ m.sd ∧ m.sd ≤ 65535) (h5 : r.val = keyS a m.sd) (e : m' = { m with sd := -1, op := true, wr := 0 })
  | wrong (h1 : r.serv = 3) (h2 : p.1 = 2) (h3 : m.un ≤ r.at_) (h4 : 0 ≤ m.sd ∧ m.sd ≤ 65535) (h5 : r.val ≠ keyS a m.sd) (h6 : m.wr + 1 ≠ a.tries) (e : m' = { m with sd := -1, wr := m.wr + 1 })
  | bar (h1 : r.serv = 3) (h2 : p.1 = 2) (h3 : m.un ≤ r.at_) (h4 : 0 ≤ m.sd ∧ m.sd ≤ 65535) (h5 : r.val ≠ keyS a m.sd) (h6 : m.wr + 1 = a.tries) (e : m' = { m with sd := -1, wr := 0, un := r.at_ + a.lock })
  | write (h1 : r.serv = 4) (h2 : p.1 = 0) (ho : m.op = true) (hv : p.2 = r.val) (e : m' = m)
theorem lock_body {a : MAcc} {c : MComp} {m : MLock} {r : MReq} (h : LockI c m) (hs : c.seed ≤ 65535) : ∃ m', LockP a m r (bodyS a c r).2 m' ∧ LockI (bodyS a c r).1 m' := by
  by_cases s1 : r.serv = 1
  · by_cases v0 : r.val = 0
    · refine ⟨_, .zero s1 ?_ v0 rfl, ?_⟩
      · simp [bodyS, s1, changeS, v0]
      · simp [bodyS, s1, changeS, v0, resetS]
        exact ⟨fun e => (by cases e), fun e => absurd e neg1, h.wr, h.un⟩
    · by_cases v2 : r.val = 2
      · by_cases t0 : c.ses = 0
        · refine ⟨m, .none (.inl ⟨.inl s1, ?_⟩) rfl, ?_⟩
          · simp [bodyS, s1, changeS, v2, t0]
          · simpa [bodyS, s1, changeS, v2, t0] using h
        · rcases hu : c.unl
          · refine ⟨m, .none (.inl ⟨.inl s1, ?_⟩) rfl, ?_⟩
            · simp [bodyS, s1, changeS, v2, t0, hu]
            · simpa [bodyS, s1, changeS, v2, t0, hu] using h
          · refine ⟨m, .two s1 ?_ v2 (h.op hu).1 rfl, ?_⟩
            · simp [bodyS, s1, changeS, v2, t0, hu]
            · simp [bodyS, s1, changeS, v2, t0, hu]
              exact ⟨fun e => ⟨(h.op hu).1, by show (2 : Int) ≠ 0; decide⟩, h.sd, h.wr, h.un⟩
      · by_cases v1 : r.val = 1
        · refine ⟨m, .one s1 ?_ v0 v2 rfl, ?_⟩
          · simp [bodyS, s1, changeS, v1]
          · simp [bodyS, s1, changeS, v1]
            exact ⟨fun e => ⟨(h.op e).1, by show (1 : Int) ≠ 0; decide⟩, fun e => absurd e neg1, h.wr, h.un⟩
        · refine ⟨m, .none (.inl ⟨.inl s1, ?_⟩) rfl, ?_⟩
          · simp [bodyS, s1, changeS, v0, v1, v2]
          · simpa [bodyS, s1, changeS, v0, v1, v2] using h
  · by_cases s2 : r.serv = 2
    · by_cases t0 : c.ses = 0
      · refine ⟨m, .none (.inl ⟨.inr (.inl s2), ?_⟩) rfl, ?_⟩
        · simp [bodyS, s2, t0]
        · simpa [bodyS, s2, t0] using h
      · by_cases t1 : r.at_ < c.til
        · refine ⟨m, .none (.inl ⟨.inr (.inl s2), ?_⟩) rfl, ?_⟩
          · simp [bodyS, s2, t0, t1]
          · simpa [bodyS, s2, t0, t1] using h
        · refine ⟨_, .give s2 ?_ (by rw [h.un]; omega) rfl, ?_⟩
          · simp [bodyS, s2, t0, t1]
          · simp [bodyS, s2, t0, t1]
            exact ⟨h.op, fun _ => rfl, h.wr, h.un⟩
    · by_cases s3 : r.serv = 3
      · by_cases t0 : c.ses = 0
        · refine ⟨m, .none (.inr (.inl ⟨s3, ?_, ?_⟩)) rfl, ?_⟩
          · simp [bodyS, s3, t0]
          · simp [bodyS, s3, t0]
          · simpa [bodyS, s3, t0] using h
        · by_cases t1 : r.at_ < c.til
          · refine ⟨m, .none (.inr (.inl ⟨s3, ?_, ?_⟩)) rfl, ?_⟩
            · simp [bodyS, s3, t0, t1]
            · simp [bodyS, s3, t0, t1]
            · simpa [bodyS, s3, t0, t1] using h
          · by_cases t2 : c.seed < 0
            · refine ⟨m, .none (.inr (.inl ⟨s3, ?_, ?_⟩)) rfl, ?_⟩
              · simp [bodyS, s3, t0, t1, tryS, t2]
              · simp [bodyS, s3, t0, t1, tryS, t2]
              · simpa [bodyS, s3, t0, t1, tryS, t2] using h
            · have hsd := h.sd (by omega)
              have hun : m.un ≤ r.at_ := by rw [h.un]; omega
              have hb : 0 ≤ m.sd ∧ m.sd ≤ 65535 := by rw [hsd]; omega
              by_cases hk : keyS a c.seed = r.val
              · refine ⟨_, .right s3 ?_ hun hb (by rw [hsd]; exact hk.symm) rfl, ?_⟩
                · simp [bodyS, s3, t0, t1, tryS, t2, hk]
                · simp [bodyS, s3, t0, t1, tryS, t2, hk]
                  exact ⟨fun _ => ⟨rfl, t0⟩, fun e => absurd e neg1, rfl, h.un⟩
              · have hk' : r.val ≠ keyS a m.sd := by rw [hsd]; exact fun e => hk e.symm
                by_cases hw : c.wrong + 1 = a.tries
                · refine ⟨_, .bar s3 ?_ hun hb hk' (by rw [h.wr]; exact hw) rfl, ?_⟩
                  · simp [bodyS, s3, t0, t1, tryS, t2, hk, hw]
                  · simp [bodyS, s3, t0, t1, tryS, t2, hk, hw]
                    exact ⟨h.op, fun e => absurd e neg1, rfl, rfl⟩
                · refine ⟨_, .wrong s3 ?_ hun hb hk' (by rw [h.wr]; exact hw) rfl, ?_⟩
                  · simp [bodyS, s3, t0, t1, tryS, t2, hk, hw]
                  · simp [bodyS, s3, t0, t1, tryS, t2, hk, hw]
                    exact ⟨h.op, fun e => absurd e neg1, by show m.wr + 1 = c.wrong + 1; rw [h.wr], h.un⟩
      · by_cases s4 : r.serv = 4
        · by_cases t0 : c.ses = 2
          · rcases hu : c.unl
            · refine ⟨m, .none (.inl ⟨.inr (.inr s4), ?_⟩) rfl, ?_⟩
              · simp [bodyS, s4, t0, hu]
              · simpa [bodyS, s4, t0, hu] using h
            · refine ⟨m, .write s4 ?_ (h.op hu).1 ?_ rfl, ?_⟩
              · simp [bodyS, s4, t0, hu]
              · simp [bodyS, s4, t0, hu]
              · simpa [bodyS, s4, t0, hu] using h
          · refine ⟨m, .none (.inl ⟨.inr (.inr s4), ?_⟩) rfl, ?_⟩
            · simp [bodyS, s4, t0]
            · simpa [bodyS, s4, t0] using h
        · refine ⟨m, .none (.inr (.inr ⟨s1, s2, s3, s4⟩)) rfl, ?_⟩
          by_cases s5 : r.serv = 5
          · simpa [bodyS, s5] using h
          · simpa [bodyS, s1, s2, s3, s4, s5] using h
theorem lock_step {a : MAcc} {c : MComp} {m : MLock} {r : MReq} (h : LockI c m) (hs : c.seed ≤ 65535) : ∃ m', LockP a (lateL a m r c.last) r (answerS a c r).2 m' ∧ LockI (answerS a c r).1 m' := by
  have hl : ({ lateS a c r with last := r.at_ } : MComp).seed ≤ 65535 := by
    show (lateS a c r).seed ≤ 65535
    unfold lateS resetS
    split
    · exact (by decide : (-1 : Int) ≤ 65535)
    · exact hs
  exact lock_body h.late hl
theorem answer_last (a : MAcc) (c : MComp) (r : MReq) : (answerS a c r).1.last = r.at_ := by
  unfold answerS
  generalize hd : ({ lateS a c r with last := r.at_ } : MComp) = d
  have hl : d.last = r.at_ := by rw [← hd]
  rw [← hl]
  unfold bodyS changeS tryS resetS
  repeat' split
  all_goals rfl
theorem compAt_last (a : MAcc) (l : List MReq) : ∀ k : Nat, (compAt a comp0 l k).last = lastAt l k
  | 0 => rfl
  | k + 1 => by
    show (answerS a (compAt a comp0 l k) (l.getD k dReq)).1.last = _
    rw [answer_last]; rfl
theorem lock0 : LockI comp0 ⟨false, -1, 0, 0⟩ := ⟨fun e => (by cases e), fun e => absurd e neg1, rfl, rfl⟩
end Go.Proofs.YtonpemikodajdaaDoor

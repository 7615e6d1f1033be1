/- Plain: a computer answers as the reference's does. -/
import Derived.Test.YtonpemikodajdaaDoorAc7
namespace Go.Proofs.YtonpemikodajdaaDoor

def emb (d : RComp) (t : Int) : MComp := ⟨d.ses, d.opn, if d.wts = true then d.seed else -1, d.seeds, d.wrong, d.til, t⟩
theorem late_emb (a : MAcc) (d : RComp) (r : MReq) (p : Int) : { lateS a (emb d p) r with last := r.at_ } = emb (rlateS a d r p) r.at_ := by
  unfold lateS rlateS
  show MComp.mk _ _ _ _ _ _ _ = _
  by_cases h : d.ses ≠ 0 ∧ a.idle < r.at_ - p
  · have h' : (emb d p).ses ≠ 0 ∧ a.idle < r.at_ - (emb d p).last := h
    rw [if_pos h, if_pos h']; rfl
  · have h' : ¬ ((emb d p).ses ≠ 0 ∧ a.idle < r.at_ - (emb d p).last) := h
    rw [if_neg h, if_neg h']; rfl
theorem body_emb (a : MAcc) (d : RComp) (r : MReq) (t : Int) (hs : 0 ≤ d.seed) : bodyS a (emb d t) r = (emb (replyS a d r).1 t, (replyS a d r).2) := by
  by_cases s1 : r.serv = 1
  · by_cases v0 : r.val = 0
    · simp [bodyS, replyS, s1, v0, changeS, resetS, emb]
    · by_cases v1 : r.val = 1
      · simp [bodyS, replyS, s1, v1, changeS, emb]
      · by_cases v2 : r.val = 2
        · by_cases t0 : d.ses = 0
          · simp [bodyS, replyS, s1, v2, changeS, emb, t0]
          · rcases ho : d.opn <;> simp [bodyS, replyS, s1, v2, changeS, emb, t0, ho]
        · simp [bodyS, replyS, s1, v0, v1, v2, changeS, emb]
  · by_cases s23 : r.serv = 2 ∨ r.serv = 3
    · by_cases t0 : d.ses = 0
      · simp [bodyS, replyS, s1, s23, t0, emb]
      · by_cases t1 : r.at_ < d.til
        · simp [bodyS, replyS, s1, s23, t0, t1, emb]
        · by_cases s2 : r.serv = 2
          · simp [bodyS, replyS, s2, t0, t1, emb]
          · have s3 : r.serv = 3 := by rcases s23 with h | h; exact absurd h s2; exact h
            rcases hw : d.wts
            · simp [bodyS, replyS, s3, t0, t1, emb, tryS, hw]
            · by_cases hk : keyS a d.seed = r.val
              · simp [bodyS, replyS, s3, t0, t1, emb, tryS, hw, hk, show ¬ d.seed < 0 by omega]
              · by_cases hn : d.wrong + 1 = a.tries
                · simp [bodyS, replyS, s3, t0, t1, emb, tryS, hw, hk, hn, show ¬ d.seed < 0 by omega, show ¬ r.val = keyS a d.seed from fun e => hk e.symm]
                · simp [bodyS, replyS, s3, t0, t1, emb, tryS, hw, hk, hn, show ¬ d.seed < 0 by omega, show ¬ r.val = keyS a d.seed from fun e => hk e.symm]
    · by_cases s4 : r.serv = 4
      · by_cases t0 : d.ses = 2
        · rcases ho : d.opn <;> simp [bodyS, replyS, s4, t0, ho, emb]
        · simp [bodyS, replyS, s4, t0, emb]
      · by_cases s5 : r.serv = 5
        · simp [bodyS, replyS, s5, emb]
        · simp [bodyS, replyS, s1, s23, s4, s5, emb]
theorem answer_emb (a : MAcc) (d : RComp) (r : MReq) (p : Int) (hs : 0 ≤ (rlateS a d r p).seed) : answerS a (emb d p) r = (emb (rstepS a d r p).1 r.at_, (rstepS a d r p).2) := by
  unfold answerS rstepS
  rw [late_emb, body_emb a _ r _ hs]
theorem compAt_emb (a : MAcc) (l : List MReq) : ∀ k : Nat, compAt a comp0 l k = emb (rcompAt a l k) (lastAt l k)
  | 0 => rfl
  | k + 1 => by
    show (answerS a (compAt a comp0 l k) (l.getD k dReq)).1 = _
    rw [compAt_emb a l k, answer_emb a _ _ _ (rcompAt_ok a l k).late.seed.1]
    rfl
theorem run_eq (a : MAcc) (l : List MReq) : runS a comp0 l = rrunS a l l.length := by
  apply List.ext_getElem?
  intro k
  by_cases hk : k < l.length
  · rw [runS_at a l comp0 k l[k] (List.getElem?_eq_getElem hk)]
    unfold rrunS
    rw [List.getElem?_map, List.getElem?_range hk]
    show some _ = some (rrepS a l k)
    unfold rrepS
    have e : l.getD k dReq = l[k] := by rw [List.getD_eq_getElem?_getD, List.getElem?_eq_getElem hk]; rfl
    rw [compAt_emb, answer_emb a _ _ _ (rcompAt_ok a l k).late.seed.1, e]
  · rw [List.getElem?_eq_none (by rw [runS_len]; omega), List.getElem?_eq_none (by rw [rrunS_len]; omega)]
end Go.Proofs.YtonpemikodajdaaDoor

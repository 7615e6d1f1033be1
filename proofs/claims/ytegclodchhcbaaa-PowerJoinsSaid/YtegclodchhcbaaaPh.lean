/- Plain: bounds of the tables. -/
import Derived.Test.YtegclodchhcbaaaPg
namespace Go.Proofs.Ytegclodchhcbaaa

def Bd (c : Tab) (m : Int) : Prop := ∀ x y, 0 ≤ c x y ∧ c x y ≤ m
theorem Bd.more {c : Tab} {m m' : Int} (h : Bd c m) (hm : m ≤ m') : Bd c m' := fun x y => by have := h x y; omega
theorem Bd.zero : Bd zeroT 0 := fun _ _ => by show (0 : Int) ≤ 0 ∧ (0 : Int) ≤ 0; omega
theorem Bd.addT {c : Tab} {m v V : Int} (h : Bd c m) (hv : 0 ≤ v ∧ v ≤ V) (i k : Nat) : Bd (addT c i k v) (m + V) := fun x y => by
  have h1 := h x y
  have h2 := h i k
  unfold Go.Proofs.Ytegclodchhcbaaa.addT upd
  split <;> omega
theorem Bd.lineT {c : Tab} {m : Int} (h : Bd c m) {F : List MFault} {l : MLine} (hl : 0 ≤ l.limit ∧ l.limit ≤ 100001) (i : Nat) : Bd (lineT F c i l) (m + 200002) := by
  unfold Go.Proofs.Ytegclodchhcbaaa.lineT
  split
  · split
    · exact (h.addT hl _ _).more (by omega)
    · exact ((h.addT hl _ _).addT hl _ _).more (by omega)
  · exact h.more (by omega)
theorem Bd.linesT {c : Tab} {m : Int} (h : Bd c m) {F : List MFault} {ls : List MLine} (hl : ∀ l ∈ ls, 0 ≤ l.limit ∧ l.limit ≤ 100001) : ∀ k : Nat, k ≤ ls.length → Bd (linesT F ls c k) (m + k * 200002)
  | 0, _ => h.more (by simp)
  | k + 1, hk => by
    have hm : ls.getD k dLine ∈ ls := by
      rw [List.getD_eq_getElem?_getD, List.getElem?_eq_getElem (by omega)]
      exact List.getElem_mem _
    exact ((Bd.linesT h hl k (by omega)).lineT (hl _ hm) k).more (by push_cast; omega)
theorem Bd.srcsT {c : Tab} {m : Int} (h : Bd c m) {F : List MFault} {b : Nat} {ss : List MSrc} (hl : ∀ s ∈ ss, 0 ≤ s.power ∧ s.power ≤ 100000) : ∀ k : Nat, k ≤ ss.length → Bd (srcsT F b ss c k) (m + k * 100000)
  | 0, _ => h.more (by simp)
  | k + 1, hk => by
    have hm : ss.getD k dSrc ∈ ss := by
      rw [List.getD_eq_getElem?_getD, List.getElem?_eq_getElem (by omega)]
      exact List.getElem_mem _
    have h1 := Bd.srcsT (F := F) (b := b) h hl k (by omega)
    unfold Go.Proofs.Ytegclodchhcbaaa.srcsT srcT
    split
    · exact (h1.addT (hl _ hm) _ _).more (by push_cast; omega)
    · exact h1.more (by push_cast; omega)
theorem Bd.usersT {c : Tab} {m : Int} (h : Bd c m) {F : List MFault} {e : Nat} {us : List MUser} {want : List Int} (hl : ∀ u ∈ us, 0 ≤ u.power ∧ u.power ≤ 1000000) (hw : ∀ x ∈ want, x.toNat < us.length) : ∀ k : Nat, k ≤ want.length → Bd (usersT F e us want c k) (m + k * 1000000)
  | 0, _ => h.more (by simp)
  | k + 1, hk => by
    have hm : want.getD k 0 ∈ want := by
      rw [List.getD_eq_getElem?_getD, List.getElem?_eq_getElem (by omega)]
      exact List.getElem_mem _
    have hx := hw _ hm
    have hu : us.getD (want.getD k 0).toNat dUser ∈ us := by
      rw [List.getD_eq_getElem?_getD, List.getElem?_eq_getElem hx]
      exact List.getElem_mem _
    have h1 := Bd.usersT (F := F) (e := e) h hl hw k (by omega)
    unfold Go.Proofs.Ytegclodchhcbaaa.usersT userT
    split
    · exact h1.more (by push_cast; omega)
    · exact (h1.addT (hl _ hu) _ _).more (by push_cast; omega)
section
variable {g : MGrid} {n : Nat} {F : List MFault} {want : List Int} {b e : Nat}
theorem GridOk.lim (hg : GridOk g n) : ∀ l ∈ g.lines, 0 ≤ l.limit ∧ l.limit ≤ 100001 := fun l hl => by have := hg.line l hl; omega
theorem GridOk.pow (hg : GridOk g n) : ∀ s ∈ g.srcs, 0 ≤ s.power ∧ s.power ≤ 100000 := fun s hs => (hg.src s hs).2
theorem GridOk.use (hg : GridOk g n) : ∀ u ∈ g.users, 0 ≤ u.power ∧ u.power ≤ 1000000 := fun u hu => by have := hg.user u hu; omega
theorem WantOk.lt (h : WantOk g want) : ∀ x ∈ want, x.toNat < g.users.length := fun x hx => by have := h x hx; omega
theorem GridOk.linesBd (hg : GridOk g n) {k : Nat} (hk : k ≤ g.lines.length) : Bd (linesT F g.lines zeroT k) 9000000 := (Bd.linesT Bd.zero hg.lim k hk).more (by have := hg.nl; omega)
theorem GridOk.liveBd (hg : GridOk g n) {k : Nat} (hk : k ≤ g.srcs.length) : Bd (srcsT F b g.srcs (linesT F g.lines zeroT g.lines.length) k) 9600000 := (Bd.srcsT (hg.linesBd (Nat.le_refl _)) hg.pow k hk).more (by have := hg.ns; omega)
theorem GridOk.srcsBd (hg : GridOk g n) {k : Nat} (hk : k ≤ g.srcs.length) : Bd (srcsT F b g.srcs zeroT k) 600000 := (Bd.srcsT Bd.zero hg.pow k hk).more (by have := hg.ns; omega)
theorem GridOk.roomBd (hg : GridOk g n) {k : Nat} (hk : k ≤ g.lines.length) : Bd (linesT F g.lines (srcsT F b g.srcs zeroT g.srcs.length) k) 9600000 := (Bd.linesT (hg.srcsBd (Nat.le_refl _)) hg.lim k hk).more (by have := hg.nl; omega)
theorem GridOk.ourBd (hg : GridOk g n) (hw : WantOk g want) (hl : want.length ≤ 100) {k : Nat} (hk : k ≤ want.length) : Bd (usersT F e g.users want (srcsT F b g.srcs (linesT F g.lines zeroT g.lines.length) g.srcs.length) k) 109600000 :=
  (Bd.usersT (hg.liveBd (Nat.le_refl _)) hg.use hw.lt k hk).more (by omega)
theorem GridOk.refBd (hg : GridOk g n) (hw : WantOk g want) (hl : want.length ≤ 100) {k : Nat} (hk : k ≤ want.length) : Bd (usersT F e g.users want (linesT F g.lines (srcsT F b g.srcs zeroT g.srcs.length) g.lines.length) k) 109600000 :=
  (Bd.usersT (hg.roomBd (Nat.le_refl _)) hg.use hw.lt k hk).more (by omega)
end
end Go.Proofs.Ytegclodchhcbaaa

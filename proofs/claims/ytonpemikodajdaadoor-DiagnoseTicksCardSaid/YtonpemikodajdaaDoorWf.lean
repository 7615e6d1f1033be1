/- What code and calm do, as steps of a tick: the rest but an insertion in the middle and a deletion. -/
import Derived.Test.YtonpemikodajdaaDoorWe
import Derived.Test.YtonpemikodajdaaDoorWk
namespace Go.Proofs.YtonpemikodajdaaDoor
open Go.RowKit

set_option maxRecDepth 100000 in
set_option maxHeartbeats 2000000 in
theorem code_keep {w : World} {B wb : Nat} {A : Option Addr} {lc : Caps} {l : List MMon} {tick : Int} {cb : Nat} {ns : List Int} {kb : Nat} {cs : List Int} {V : Value} {K : List (MCode × Value)}
    (hS : WS w B wb A lc l tick cb ns kb cs V K) (hl : l.length ≤ 20) (hK : K.length ≤ 1000000) (hasc : AscC (K.map Prod.fst)) (i : Nat) (hi : i < l.length) (m : MMon) (hm : l[i]? = some m) (R : Option Addr) (rc : Nat) (row : List Int)
    (ix : Nat) (hf : FindP (K.map Prod.fst) i ix true) (p : MCode × Value) (hp : K[ix]? = some p) (ha : p.1.active = true) (hn : ns.getD i 0 = m.limit) (hlim : m.limit ≠ 0) :
    Calls Tryd.prog 90 #[.pointer (some ⟨wb, 0, none⟩), .int .i64 i, .slice R row.length rc] w fun e w' => e = .returned (.tuple #[]) ∧ WS w' B wb A lc l tick cb ns kb cs V K ∧ Below B w w' := by
  have hix : ix < K.length := by have := (hf.2.2.2.1 rfl).1; simpa using this
  obtain ⟨g, cap, rfl, hg⟩ := hS.form (by omega)
  have hC := find_at (some ⟨g, 0, none⟩) cap (K.map Prod.fst) i w (RowC.codes hS.row hS.frames hK) hasc (by omega) hf
  rw [List.length_map] at hC
  have HC := Lib.hid hC
  have hb0 : ∀ w', Below w.heap.size w w' → WS w' B wb A lc l tick cb ns kb cs (.slice (some ⟨g, 0, none⟩) K.length cap) K := fun w' hb => hS.below hb (Nat.le_refl _)
  have HB := Lib.hid hb0
  have hBw := Nat.le_of_lt (Nat.lt_of_le_of_lt hS.bw hS.lt)
  have g4 := hS.g 4
  simp at g4
  obtain ⟨m', b', off', ht', hA', hblt', hcs'⟩ := hS.mons.at_ hi
  subst hA'
  clear ht' hcs' m'
  have HK := Lib.hid hK
  have HM := Lib.hid hm
  have HN := Lib.hid hn
  have HP := Lib.hid hp
  clear hC hb0 hf hK hasc hS hm hn hp
  go_enter Tryd.func90, Tryd.ntmps90
  go_wp2_with (go_at_call 106; refine HC.out.mono ?_; rintro e w1 ⟨rfl, hb1⟩; have HS1 := HB.out _ hb1; obtain ⟨f0, f1, f2, f4, k0, t5⟩ := HS1.codeFacts hi HM.out HN.out; obtain ⟨c5, c5f⟩ := HS1.codeCell HP.out 5 (by decide); rw [show (cells6 p)[5]? = some (.bool p.1.active) from rfl, ha] at c5)
  go_end0
  exact ⟨rfl, HS1, hb1.mono hBw⟩
theorem map_fst_set {K : List (MCode × Value)} {ix : Nat} {c : MCode} {v : Value} : (K.set ix (c, v)).map Prod.fst = (K.map Prod.fst).set ix c := by
  rw [List.map_set]
section
variable {B wb : Nat} {A : Option Addr} {lc : Caps} {l : List MMon} {tick : Int} {cb kb : Nat} {R : Option Addr} {rc : Nat} {row : List Int} {i : Nat} {s : WSt}
theorem codeC_off (hl : l.length ≤ 20) {m : MMon} (hm : l[i]? = some m) (hi : i < l.length) (hks : s.ks.length ≤ 1000000) (hasc : AscC s.ks) {ix : Nat} (hf : FindP s.ks i ix true) {c : MCode} (hc : s.ks[ix]? = some c) (h1 : s.ns.getD i 0 = 0) (h2 : 0 ≠ m.limit) :
    CodeC B wb A lc l tick cb kb R rc row i s { s with ks := s.ks.set ix { c with active := false } } := fun w hT _ => by
  obtain ⟨e1, e2, V, K, e3, hS⟩ := hT
  have hc' := hc
  rw [← e3, List.getElem?_map, Option.map_eq_some_iff] at hc'
  obtain ⟨p, hp, rfl⟩ := hc'
  refine (code_off hS hl (by rw [← List.length_map (f := Prod.fst), e3]; exact hks) (by rw [e3]; exact hasc) i hi m hm R rc row ix (by rw [e3]; exact hf) p hp h1 h2).mono ?_
  rintro e w' ⟨h3, h4, h5⟩
  exact ⟨h3, ⟨e1, e2, V, _, by rw [map_fst_set, e3], h4⟩, h5⟩
theorem codeC_again (hl : l.length ≤ 20) {m : MMon} (hm : l[i]? = some m) (hi : i < l.length) (hks : s.ks.length ≤ 1000000) (hasc : AscC s.ks) {ix : Nat} (hf : FindP s.ks i ix true) {c : MCode} (hc : s.ks[ix]? = some c) (ha : c.active = false) (h1 : s.ns.getD i 0 = m.limit) (hcb : 0 ≤ c.count ∧ c.count ≤ 1000) :
    CodeC B wb A lc l tick cb kb R rc row i s { s with ks := s.ks.set ix { c with active := true, last := tick, count := min (c.count + 1) 1000 } } := fun w hT _ => by
  obtain ⟨e1, e2, V, K, e3, hS⟩ := hT
  have hc' := hc
  rw [← e3, List.getElem?_map, Option.map_eq_some_iff] at hc'
  obtain ⟨p, hp, rfl⟩ := hc'
  refine (code_again hS hl (by rw [← List.length_map (f := Prod.fst), e3]; exact hks) (by rw [e3]; exact hasc) i hi m hm R rc row ix (by rw [e3]; exact hf) p hp ha h1 hcb).mono ?_
  rintro e w' ⟨h3, h4, h5⟩
  exact ⟨h3, ⟨e1, e2, V, _, by rw [map_fst_set, e3], h4⟩, h5⟩
theorem codeC_keep (hl : l.length ≤ 20) {m : MMon} (hm : l[i]? = some m) (hi : i < l.length) (hks : s.ks.length ≤ 1000000) (hasc : AscC s.ks) {ix : Nat} (hf : FindP s.ks i ix true) {c : MCode} (hc : s.ks[ix]? = some c) (ha : c.active = true) (h1 : s.ns.getD i 0 = m.limit) (h2 : m.limit ≠ 0) :
    CodeC B wb A lc l tick cb kb R rc row i s s := fun w hT _ => by
  obtain ⟨e1, e2, V, K, e3, hS⟩ := hT
  have hc' := hc
  rw [← e3, List.getElem?_map, Option.map_eq_some_iff] at hc'
  obtain ⟨p, hp, rfl⟩ := hc'
  refine (code_keep hS hl (by rw [← List.length_map (f := Prod.fst), e3]; exact hks) (by rw [e3]; exact hasc) i hi m hm R rc row ix (by rw [e3]; exact hf) p hp ha h1 h2).mono ?_
  rintro e w' ⟨h3, h4, h5⟩
  exact ⟨h3, ⟨e1, e2, V, _, e3, h4⟩, h5⟩
theorem calmC_more (hl : l.length ≤ 20) {m : MMon} (hm : l[i]? = some m) (hi : i < l.length) (hks : s.ks.length ≤ 1000000) (hasc : AscC s.ks) {ix : Nat} (hf : FindP s.ks i ix true) (ha : (s.ks.getD ix dCode).active = false) (hn : 0 ≤ s.cs.getD i 0 ∧ s.cs.getD i 0 ≤ 100000) (hne : s.cs.getD i 0 + 1 ≠ m.heal) :
    CalmC B wb A lc l tick cb kb i s { s with cs := s.cs.set i (s.cs.getD i 0 + 1) } := fun w hT => by
  obtain ⟨e1, e2, V, K, e3, hS⟩ := hT
  refine (calm_more hS hl e2 (by rw [← List.length_map (f := Prod.fst), e3]; exact hks) (by rw [e3]; exact hasc) i hi m hm ix (by rw [e3]; exact hf) (by rw [e3]; exact ha) _ rfl hn hne).mono ?_
  rintro e w' ⟨h3, h4, h5⟩
  exact ⟨h3, ⟨e1, by simpa using e2, V, K, e3, h4⟩, h5⟩
end
end Go.Proofs.YtonpemikodajdaaDoor

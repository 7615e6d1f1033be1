/- Walk: the reference's copied. Printed by gen_mi.py. -/
import Derived.Test.YtonpemikodajdaaDoorMh
import Derived.Test.YtonpemikodajdaaDoorMh
namespace Go.Proofs.YtonpemikodajdaaDoor
open Go.RowKit

theorem mem_fields : (match Tryd.prog.underlying 27 with | some (.struct fields) => fields.toList.mapM (fun f => (Tryd.prog.info? f.type).map fun i => (f.offset, i.size)) | _ => none) = some [(0, 1), (1, 1), (2, 1), (3, 1)] := by kernel_rfl
theorem info_mem : (Tryd.prog.info? 27).map (fun i => (i.zero, i.size, i.bytes)) = some (some (.agg #[.int .i64 0, .slice none 0 0, .slice none 0 0, .slice none 0 0]), 4, 80) := by kernel_rfl
theorem built_mem (a : Int) (A : Option Addr) (n k : Nat) (A' : Option Addr) (n' k' : Nat) :
    Tryd.prog.built 27 [(0, .int .i64 a), (1, .slice A n k), (2, .slice A' n' k')] = some #[.int .i64 a, .slice A n k, .slice A' n' k', .slice none 0 0] := by
  obtain ⟨i0, hi, hz0, hz1, hz2⟩ := info_parts info_mem
  have hf := mem_fields
  rcases hu : Tryd.prog.underlying 27 with _ | d
  · rw [hu] at hf; cases hf
  rw [hu] at hf
  cases d
  case struct fields =>
    rw [built_struct hi hu hz0 hf]
    simp [Instr.fill, Value.cells]
  all_goals cases hf
theorem yields_mem {ops : Array Oper} {S : World → Prop} {o : Oper} {a : Act} (hg : o.guard = none) (x0 x1 x2 : Operand) (ho : o.op = .build 27 #[(0, x0), (1, x1), (2, x2)]) (v0 : Int) (A : Option Addr) (n k : Nat) (A' : Option Addr) (n' k' : Nat)
    (h0 : a.eval x0 = .int .i64 v0) (h1 : a.eval x1 = .slice A n k) (h2 : a.eval x2 = .slice A' n' k') :
    YieldsIf Tryd.prog ops S o (.agg #[.int .i64 v0, .slice A n k, .slice A' n' k', .slice none 0 0]) a :=
  yields_build hg 27 _ ho (by simp only [List.map_cons, List.map_nil, h0, h1, h2]; exact built_mem _ _ _ _ _ _ _)
/-- what is made of a new memory: its counters, its calm, its block -/
structure St3 (w2 : World) (ns cs : List Int) (W : World) (oc ok : Option (Nat × Nat)) (oh : Option Nat) : Prop where
  b : Below w2.heap.size w2 W
  c : ∀ q, oc = some q → OutI W w2.heap.size (.slice (some ⟨q.1, 0, none⟩) ns.length q.2) ns
  k : ∀ q, ok = some q → OutI W w2.heap.size (.slice (some ⟨q.1, 0, none⟩) cs.length q.2) cs
  h : ∀ x, oh = some x → W.heap[x]? = some (.cells #[.int .i64 0, .slice none 0 0, .slice none 0 0, .slice none 0 0] 27 (0, 0)) ∧ w2.heap.size ≤ x
  n1 : ∀ q q', oc = some q → ok = some q' → q.1 ≠ q'.1
  n2 : ∀ q x, oc = some q → oh = some x → q.1 ≠ x
  n3 : ∀ q x, ok = some q → oh = some x → q.1 ≠ x
section
variable {w2 W w' : World} {ns cs : List Int} {oc ok : Option (Nat × Nat)} {oh : Option Nat}
theorem outI_grow {B : Nat} {V : Value} {l : List Int} (h : OutI W B V l) (hg : W.grownBy w' none) : OutI w' B V l := h.keepB fun g hgb => hg.block g (own_block_lt h g hgb).2 (by simp)
theorem St3.appC {g c : Nat} (h : St3 w2 ns cs W none ok oh) (hO : OutI w' W.heap.size (.slice (some ⟨g, 0, none⟩) ns.length c) ns) (hg : W.grownBy w' none) : St3 w2 ns cs w' (some (g, c)) ok oh := by
  have hgW : W.heap.size ≤ g := (own_block_lt hO g rfl).1
  have hs := h.b.size
  refine ⟨h.b.trans (((Below.refl W.heap.size W).grown hg (Nat.le_refl _) (fun k hk => by cases hk)).mono hs), fun q hq => ?_, fun q hq => outI_grow (h.k q hq) hg, fun x hx => ⟨(hg.block x (lt_of_block (h.h x hx).1) (by simp)).trans (h.h x hx).1, (h.h x hx).2⟩, fun q q' hq hq' => ?_, fun q x hq hx => ?_, h.n3⟩
  · injection hq with hq; subst hq; exact own_base hO hs
  · injection hq with hq; subst hq
    have := (own_block_lt (h.k q' hq') q'.1 rfl).2
    show g ≠ _; omega
  · injection hq with hq; subst hq
    have := lt_of_block (h.h x hx).1
    show g ≠ _; omega
theorem St3.appK {g c : Nat} (h : St3 w2 ns cs W oc none oh) (hO : OutI w' W.heap.size (.slice (some ⟨g, 0, none⟩) cs.length c) cs) (hg : W.grownBy w' none) : St3 w2 ns cs w' oc (some (g, c)) oh := by
  have hgW : W.heap.size ≤ g := (own_block_lt hO g rfl).1
  have hs := h.b.size
  refine ⟨h.b.trans (((Below.refl W.heap.size W).grown hg (Nat.le_refl _) (fun k hk => by cases hk)).mono hs), fun q hq => outI_grow (h.c q hq) hg, fun q hq => ?_, fun x hx => ⟨(hg.block x (lt_of_block (h.h x hx).1) (by simp)).trans (h.h x hx).1, (h.h x hx).2⟩, fun q q' hq hq' => ?_, h.n2, fun q x hq hx => ?_⟩
  · injection hq with hq; subst hq; exact own_base hO hs
  · injection hq' with hq'; subst hq'
    have := (own_block_lt (h.c q hq) q.1 rfl).2
    show q.1 ≠ g; omega
  · injection hq with hq; subst hq
    have := lt_of_block (h.h x hx).1
    show g ≠ _; omega
theorem St3.made (h : St3 w2 ns cs W oc ok none) : St3 w2 ns cs (W.alloc (.cells #[.int .i64 0, .slice none 0 0, .slice none 0 0, .slice none 0 0] 27)) oc ok (some W.heap.size) := by
  have hs := h.b.size
  refine ⟨h.b.alloc hs _, fun q hq => (h.c q hq).keepB fun g hg => Below.heap_alloc W _ g (own_block_lt (h.c q hq) g hg).2, fun q hq => (h.k q hq).keepB fun g hg => Below.heap_alloc W _ g (own_block_lt (h.k q hq) g hg).2, fun x hx => ?_, h.n1, fun q x hq hx => ?_, fun q x hq hx => ?_⟩
  · injection hx with hx; subst hx; exact ⟨heap_alloc_new W _, hs⟩
  · injection hx with hx; subst hx
    have := (own_block_lt (h.c q hq) q.1 rfl).2
    omega
  · injection hx with hx; subst hx
    have := (own_block_lt (h.k q hq) q.1 rfl).2
    omega
theorem St3.cells {x : Nat} (h : St3 w2 ns cs W oc ok (some x)) : W.cell? ⟨x, 0, none⟩ = some (.int .i64 0) ∧ W.cell? ⟨x, 1, none⟩ = some (.slice none 0 0) ∧ W.cell? ⟨x, 2, none⟩ = some (.slice none 0 0) ∧ W.cell? ⟨x, 3, none⟩ = some (.slice none 0 0) ∧
    W.frozen? ⟨x, 0, none⟩ = false ∧ W.frozen? ⟨x, 1, none⟩ = false ∧ W.frozen? ⟨x, 2, none⟩ = false ∧ W.frozen? ⟨x, 3, none⟩ = false := by
  have hh := (h.h x rfl).1
  exact ⟨row_cell hh 0, row_cell hh 1, row_cell hh 2, row_cell hh 3, row_frozen hh 0, row_frozen hh 1, row_frozen hh 2, row_frozen hh 3⟩
theorem St3.stored {x : Nat} (h : St3 w2 ns cs W oc ok (some x)) (a b c d : Value) : ((((W.setCell ⟨x, 0, none⟩ a).setCell ⟨x, 1, none⟩ b).setCell ⟨x, 2, none⟩ c).setCell ⟨x, 3, none⟩ d).heap[x]? = some (.cells #[a, b, c, d] 27 (0, 0)) ∧
    Below w2.heap.size w2 ((((W.setCell ⟨x, 0, none⟩ a).setCell ⟨x, 1, none⟩ b).setCell ⟨x, 2, none⟩ c).setCell ⟨x, 3, none⟩ d) := ⟨put4 (h.h x rfl).1, below_put4 h.b (h.h x rfl).2 _ _ _ _⟩
set_option maxHeartbeats 4000000 in
theorem St3.done {gC cC gK cK x : Nat} (h : St3 w2 ns cs W (some (gC, cC)) (some (gK, cK)) (some x)) (t : Int) :
    RS ((((W.setCell ⟨x, 0, none⟩ (.int .i64 t)).setCell ⟨x, 1, none⟩ (.slice (some ⟨gC, 0, none⟩) ns.length cC)).setCell ⟨x, 2, none⟩ (.slice (some ⟨gK, 0, none⟩) cs.length cK)).setCell ⟨x, 3, none⟩ (.slice none 0 0)) w2.heap.size x t (.slice (some ⟨gC, 0, none⟩) ns.length cC) ns (.slice (some ⟨gK, 0, none⟩) cs.length cK) cs (.slice none 0 0) [] ∧
    Below w2.heap.size w2 ((((W.setCell ⟨x, 0, none⟩ (.int .i64 t)).setCell ⟨x, 1, none⟩ (.slice (some ⟨gC, 0, none⟩) ns.length cC)).setCell ⟨x, 2, none⟩ (.slice (some ⟨gK, 0, none⟩) cs.length cK)).setCell ⟨x, 3, none⟩ (.slice none 0 0)) := by
  have hs := h.stored (.int .i64 t) (.slice (some ⟨gC, 0, none⟩) ns.length cC) (.slice (some ⟨gK, 0, none⟩) cs.length cK) (.slice none 0 0)
  have e1 := h.n1 _ _ rfl rfl
  have e2 := h.n2 _ _ rfl rfl
  have e3 := h.n3 _ _ rfl rfl
  refine ⟨⟨hs.1, (h.h x rfl).2, (h.c _ rfl).keepB (fun g hg => ?_), (h.k _ rfl).keepB (fun g hg => ?_), World.ownsRow_nil _ _ _ _, fun e => ?_, fun e => ?_, (fun e => by cases e), fun g hg e => ?_, (fun _ _ e => by cases e), (fun _ _ e => by cases e), fun p hp => by cases hp⟩, hs.2⟩
  · have hg : some gC = some g := hg
    injection hg with hg; subst hg; exact heap_put4 e2 _ _ _ _
  · have hg : some gK = some g := hg
    injection hg with hg; subst hg; exact heap_put4 e3 _ _ _ _
  · have e : some gC = some x := e
    injection e with e; exact e2 e
  · have e : some gK = some x := e
    injection e with e; exact e3 e
  · have hg : some gC = some g := hg
    have e : some gK = some g := e
    injection hg with hg
    injection e with e
    exact e1 (by rw [hg, e])
theorem St3.fin {gC cC gK cK : Nat} (h : St3 w2 ns cs W (some (gC, cC)) (some (gK, cK)) none) (t : Int) :
    RS (W.alloc (.cells #[.int .i64 t, .slice (some ⟨gC, 0, none⟩) ns.length cC, .slice (some ⟨gK, 0, none⟩) cs.length cK, .slice none 0 0] 27)) w2.heap.size W.heap.size t (.slice (some ⟨gC, 0, none⟩) ns.length cC) ns (.slice (some ⟨gK, 0, none⟩) cs.length cK) cs (.slice none 0 0) [] ∧
    Below w2.heap.size w2 (W.alloc (.cells #[.int .i64 t, .slice (some ⟨gC, 0, none⟩) ns.length cC, .slice (some ⟨gK, 0, none⟩) cs.length cK, .slice none 0 0] 27)) := by
  have hs := h.b.size
  have e1 := h.n1 _ _ rfl rfl
  have l1 := (own_block_lt (h.c _ rfl) gC rfl).2
  have l2 := (own_block_lt (h.k _ rfl) gK rfl).2
  refine ⟨⟨heap_alloc_new W _, hs, (h.c _ rfl).keepB (fun g hg => ?_), (h.k _ rfl).keepB (fun g hg => ?_), World.ownsRow_nil _ _ _ _, fun e => ?_, fun e => ?_, (fun e => by cases e), fun g hg e => ?_, (fun _ _ e => by cases e), (fun _ _ e => by cases e), fun p hp => by cases hp⟩, h.b.alloc hs _⟩
  · have hg : some gC = some g := hg
    injection hg with hg; subst hg; exact Below.heap_alloc W _ gC l1
  · have hg : some gK = some g := hg
    injection hg with hg; subst hg; exact Below.heap_alloc W _ gK l2
  · have e : some gC = some W.heap.size := e
    injection e with e; omega
  · have e : some gK = some W.heap.size := e
    injection e with e; omega
  · have hg : some gC = some g := hg
    have e : some gK = some g := e
    injection hg with hg
    injection e with e
    exact e1 (by rw [hg, e])
end
theorem MOwn.keepH {w w' : World} {B : Nat} {v : Value} {t : Int} {s : WSt} (h : MOwn w B v t s) (hk : ∀ b, B ≤ b → b < w.heap.size → w'.heap[b]? = w.heap[b]?) (hs : w.heap.size ≤ w'.heap.size) : MOwn w' B v t s := by
  obtain ⟨VC, VK, V, K, rfl, h1, h2, h3, h4, h5, h6, h7, h8⟩ := h
  exact ⟨VC, VK, V, K, rfl, h1, h2.keepB (fun g hg => hk g (own_block_lt h2 g hg).1 (own_block_lt h2 g hg).2), h3.keepB (fun g hg => hk g (own_block_lt h3 g hg).1 (own_block_lt h3 g hg).2), own_keep h4 (fun g hg => hk g (own_block_lt h4 g hg).1 (own_block_lt h4 g hg).2), h5, h6, h7, fun p hp => (h8 p hp).keep hs (fun b hb hu => hk b hu.2.2.2 hb) (fun _ _ hu => hu)⟩
theorem MOwn.base {w : World} {B B' : Nat} {v : Value} {t : Int} {s : WSt} (h : MOwn w B v t s) (hB : B' ≤ B) : MOwn w B' v t s := by
  obtain ⟨VC, VK, V, K, rfl, h1, h2, h3, h4, h5, h6, h7, h8⟩ := h
  exact ⟨VC, VK, V, K, rfl, h1, own_base h2 hB, own_base h3 hB, own_base h4 hB, h5, h6, h7, fun p hp => (h8 p hp).keep (Nat.le_refl _) (fun _ _ _ => rfl) (fun b _ hu => ⟨hu.1, hu.2.1, hu.2.2.1, by omega⟩)⟩
set_option maxRecDepth 100000 in
theorem wpl_app_list {ops : Array Oper} {rest : List Oper} {o : Oper} {a : Act} {Q : Exit → Act → World → Prop} (w : World) (hg : o.guard = none) (s x : Operand) (ho : o.op = .call { callee := .builtin .append, args := #[s, x], argTypes := #[24, 24] }) (A : Option Addr) (rc : Nat) (row : List Int)
    (hs : a.eval s = .slice none 0 0) (hx : a.eval x = .slice A row.length rc) (hr : IntsA w w.heap.size A row) (hl : 0 < row.length ∧ row.length ≤ 1000)
    (hK : ∀ g cap w', OutI w' w.heap.size (.slice (some ⟨g, 0, none⟩) row.length cap) row → row.length ≤ cap → w.grownBy w' none → g < w'.heap.size → wpList Tryd.prog ops Q rest (a.put o.dst (.slice (some ⟨g, 0, none⟩) row.length cap)) w') : wpList Tryd.prog ops Q (o :: rest) a w := by
  obtain ⟨i0, hi, hz0, hz1, hz2⟩ := info_parts info_int
  obtain ⟨b, off, e, hb, hc⟩ := hr.2 hl.1
  subst e
  refine wpList_append_lies w hg s x 24 ho w.heap.size 3 i0 (.int .i64 0) 1 8 under_ints hi hz0 hz1 hz2 rfl (by decide) (.slice none 0 0) 0 [] hs (World.ownsRow_nil _ _ _ _) ⟨b, off, none⟩ row.length rc (row.map (Value.int .i64)) hx (by simp) ?_ ?_ hl.1 (by unfold maxLen; omega) (by omega) (Nat.le_refl _) w.heap.size rfl (fun g cap w' h1 h2 h3 h4 => ?_)
  · intro j u hj
    have hjl : j < row.length := by
      rcases Nat.lt_or_ge j row.length with hh | hh
      · exact hh
      · rw [List.getElem?_eq_none (by rw [List.length_map]; exact hh)] at hj; cases hj
    rw [add_none0, hc j hjl]
    rw [List.getElem?_map, List.getElem?_eq_getElem hjl] at hj
    injection hj with hj
    rw [← hj, List.getD_eq_getElem?_getD, List.getElem?_eq_getElem hjl]
    rfl
  · intro u hu
    obtain ⟨p, _, rfl⟩ := List.mem_map.1 hu
    rfl
  · rw [Nat.zero_add] at h1 ⊢
    rw [List.nil_append] at h1
    have hO : OutI w' w.heap.size (.slice (some ⟨g, 0, none⟩) row.length cap) row := h1
    have hcap : row.length ≤ cap := by
      obtain ⟨A, c, e, hc, _⟩ := hO.reads
      injection e with e1 e2 e3
      omega
    exact hK g cap w' hO hcap h2 h4
theorem frame_W {wr W4 : World} {B mb : Nat} {t t' : Int} {VC : Value} {ns : List Int} {VK : Value} {cs : List Int} {V : Value} {K : List (MCode × Value)} (_hS4 : RS W4 B mb t' VC ns VK cs V K) {g cap B6 : Nat} {c : MCode} (hO : OutI W4 B6 (.slice (some ⟨g, 0, none⟩) c.frame.length cap) c.frame) (hc : c.frame.length ≤ cap) (hl : c.frame.length ≤ 1000) (hB6 : wr.heap.size ≤ B6) (_hg : B6 ≤ g) (hS : RS wr B mb t VC ns VK cs V K) :
    FrameU W4 (RU B mb VC VK V) (c, .slice (some ⟨g, 0, none⟩) c.frame.length cap) :=
  frame_new rfl hO hc (by unfold maxLen; omega) fun b hb => ⟨fun e => by have := hS.lt; omega, fun e => by have := (own_block_lt hS.cnt b e).2; omega, fun e => by have := (own_block_lt hS.clm b e).2; omega, fun e => by have := (own_block_lt hS.row b e).2; omega, by have := hS.bm; have := hS.lt; omega⟩
set_option maxRecDepth 100000 in
set_option maxHeartbeats 8000000 in
theorem copied_r (v : Value) (t : Int) (s : WSt) (w : World) (hm : MemA w w.heap.size v t s) (hln : 0 < s.ns.length ∧ s.ns.length ≤ 1000) (hlc : 0 < s.cs.length ∧ s.cs.length ≤ 1000) (hfr : ∀ c ∈ s.ks, 0 < c.frame.length ∧ c.frame.length ≤ 1000) (hkl : s.ks.length ≤ 1000) :
    Calls Tryd.prog 92 #[v] w fun e w' => ∃ v', e = .returned v' ∧ MOwn w' w.heap.size v' t s ∧ Below w.heap.size w w' := by
  obtain ⟨Ac, cc, Ak, ck, Av, cv, rfl, hI1, hI2, hC, hcc, hck, hcv⟩ := hm
  obtain ⟨bA, oA, hAe, hbA, _⟩ := hI1.2 hln.1
  obtain ⟨bK, oK, hKe, hbK, _⟩ := hI2.2 hlc.1
  subst hAe
  subst hKe
  obtain ⟨w1, hw1⟩ : ∃ w1, w1 = (w.alloc (.cells #[.int .i64 t, .slice (some ⟨bA, oA, none⟩) s.ns.length cc, .slice (some ⟨bK, oK, none⟩) s.cs.length ck, .slice Av s.ks.length cv] 27)).alloc (.cells #[.int .i64 0, .slice none 0 0, .slice none 0 0, .slice none 0 0] 27) := ⟨_, rfl⟩
  have hb1 : Below w.heap.size w w1 := by rw [hw1]; exact ((Below.refl _ _).alloc (Nat.le_refl _) _).alloc (by simp) _
  have hs1 : w1.heap.size = w.heap.size + 2 := by rw [hw1]; simp
  have hh1 : w1.heap[w.heap.size]? = some (.cells #[.int .i64 t, .slice (some ⟨bA, oA, none⟩) s.ns.length cc, .slice (some ⟨bK, oK, none⟩) s.cs.length ck, .slice Av s.ks.length cv] 27 (0, 0)) := by rw [hw1]; exact (Below.heap_alloc _ _ _ (by simp)).trans (heap_alloc_new w _)
  have hh2 : w1.heap[w.heap.size + 1]? = some (.cells #[.int .i64 0, .slice none 0 0, .slice none 0 0, .slice none 0 0] 27 (0, 0)) := by
    have := heap_alloc_new (w.alloc (.cells #[.int .i64 t, .slice (some ⟨bA, oA, none⟩) s.ns.length cc, .slice (some ⟨bK, oK, none⟩) s.cs.length ck, .slice Av s.ks.length cv] 27)) (.cells #[.int .i64 0, .slice none 0 0, .slice none 0 0, .slice none 0 0] 27)
    rw [hw1]
    simpa using this
  have hwf := hw1.symm
  have HB1 := Lib.hid hb1
  have HH1 := Lib.hid hh1
  have HH2 := Lib.hid hh2
  have HI1 := Lib.hid hI1
  have HI2 := Lib.hid hI2
  have HCC := Lib.hid hC
  have HSZ := Lib.hid hs1
  clear hb1 hh1 hh2 hI1 hI2 hC hw1 hs1
  go_enter Tryd.func92, Tryd.ntmps92
  go_upto_region 1 with fail
  go_cut [3] (fun s3 wx => ∃ x, s3 = .pointer (some ⟨x, 0, none⟩) ∧ ∃ gC cC gK cK, RS wx w1.drew.heap.size x t (.slice (some ⟨gC, 0, none⟩) s.ns.length cC) s.ns (.slice (some ⟨gK, 0, none⟩) s.cs.length cK) s.cs (.slice none 0 0) [] ∧ Below w1.drew.heap.size w1.drew wx)
  case first =>
    have HSS : Hid (∀ W, Below w1.drew.heap.size w1.drew W → W.cell? ⟨w.heap.size, 0, none⟩ = some (.int .i64 t) ∧ W.cell? ⟨w.heap.size, 1, none⟩ = some (.slice (some ⟨bA, oA, none⟩) s.ns.length cc) ∧ W.cell? ⟨w.heap.size, 2, none⟩ = some (.slice (some ⟨bK, oK, none⟩) s.cs.length ck)) := fun W hW => by
      have hh := (hW.block w.heap.size (by show _ < w1.heap.size; have := HSZ.out; omega)).trans HH1.out
      exact ⟨row_cell hh 0, row_cell hh 1, row_cell hh 2⟩
    have HIA : Hid (∀ W, Below w1.drew.heap.size w1.drew W → IntsA W W.heap.size (some ⟨bA, oA, none⟩) s.ns) := fun W hW => by
      have h1 : Below w.heap.size w W := HB1.out.trans ((Below.refl w1.heap.size w1).drew.trans hW |>.mono (by have := HSZ.out; omega))
      exact (HI1.out.keep h1).more h1.size
    have HIK : Hid (∀ W, Below w1.drew.heap.size w1.drew W → IntsA W W.heap.size (some ⟨bK, oK, none⟩) s.cs) := fun W hW => by
      have h1 : Below w.heap.size w W := HB1.out.trans ((Below.refl w1.heap.size w1).drew.trans hW |>.mono (by have := HSZ.out; omega))
      exact (HI2.out.keep h1).more h1.size
    have HST0 : Hid (St3 w1.drew s.ns s.cs w1.drew none none none) := ⟨Below.refl _ _, (fun _ h => by cases h), (fun _ h => by cases h), (fun _ h => by cases h), (fun _ _ h _ => by cases h), (fun _ _ h _ => by cases h), (fun _ _ h _ => by cases h)⟩
    refine wp_region_held_drew (S := fun w' => w'.cell? ⟨w.heap.size, 0, none⟩ = some (.int .i64 t) ∧ w'.cell? ⟨w.heap.size, 1, none⟩ = some (.slice (some ⟨bA, oA, none⟩) s.ns.length cc) ∧ w'.cell? ⟨w.heap.size, 2, none⟩ = some (.slice (some ⟨bK, oK, none⟩) s.cs.length ck)) (by kernel_rfl) (HSS.out _ (Below.refl _ _)) (fun hHeld => ?_)
    refine wpAnyH_take (i := 0) (v := ?_) (by simp only [List.getElem?_toArray, List.getElem?_cons_zero]; rfl) (by kernel_rfl) (by kernel_rfl) (by kernel_rfl) (by exact fun _ _ _ h => h) (Or.inl ⟨by rfl, ?_⟩) (by assumption) ?_
    rotate_left 1
    · (intro w hSw; (try dsimp only at hSw); go_simp <;> with_reducible rfl)
    try simp only [Act.put, List.setIfInBounds_toArray, List.set_cons_zero, List.set_cons_succ]
    refine wpAnyH_take (i := 1) (v := ?_) (by simp only [List.getElem?_toArray, List.getElem?_cons_succ, List.getElem?_cons_zero]; rfl) (by kernel_rfl) (by kernel_rfl) (by kernel_rfl) (by exact fun _ _ _ h => h) (Or.inl ⟨by rfl, ?_⟩) (by assumption) ?_
    rotate_left 1
    · (intro w hSw; (try dsimp only at hSw); go_simp <;> with_reducible rfl)
    try simp only [Act.put, List.setIfInBounds_toArray, List.set_cons_zero, List.set_cons_succ]
    refine wpAnyH_take (i := 2) (v := ?_) (by simp only [List.getElem?_toArray, List.getElem?_cons_succ, List.getElem?_cons_zero]; rfl) (by kernel_rfl) (by kernel_rfl) (by kernel_rfl) (by exact fun _ _ _ h => h) (Or.inl ⟨by rfl, ?_⟩) (by assumption) ?_
    rotate_left 1
    · (intro w hSw; (try dsimp only at hSw); go_simp <;> with_reducible rfl)
    try simp only [Act.put, List.setIfInBounds_toArray, List.set_cons_zero, List.set_cons_succ]
    refine wpAnyH_take (i := 3) (v := ?_) (by simp only [List.getElem?_toArray, List.getElem?_cons_succ, List.getElem?_cons_zero]; rfl) (by kernel_rfl) (by kernel_rfl) (by kernel_rfl) (by exact fun _ _ _ h => h) (Or.inl ⟨by rfl, ?_⟩) (by assumption) ?_
    rotate_left 1
    · (intro w hSw; (try dsimp only at hSw); go_simp <;> with_reducible rfl)
    try simp only [Act.put, List.setIfInBounds_toArray, List.set_cons_zero, List.set_cons_succ]
    refine wpAnyH_take (i := 5) (v := ?_) (by simp only [List.getElem?_toArray, List.getElem?_cons_succ, List.getElem?_cons_zero]; rfl) (by kernel_rfl) (by kernel_rfl) (by kernel_rfl) (by exact fun _ _ _ h => h) (Or.inl ⟨by rfl, ?_⟩) (by assumption) ?_
    rotate_left 1
    · (intro w hSw; (try dsimp only at hSw); go_simp <;> with_reducible rfl)
    try simp only [Act.put, List.setIfInBounds_toArray, List.set_cons_zero, List.set_cons_succ]
    refine wpAnyH_take (i := 6) (v := ?_) (by simp only [List.getElem?_toArray, List.getElem?_cons_succ, List.getElem?_cons_zero]; rfl) (by kernel_rfl) (by kernel_rfl) (by kernel_rfl) (by exact fun _ _ _ h => h) (Or.inl ⟨by rfl, ?_⟩) (by assumption) ?_
    rotate_left 1
    · (intro w hSw; (try dsimp only at hSw); go_simp <;> with_reducible rfl)
    try simp only [Act.put, List.setIfInBounds_toArray, List.set_cons_zero, List.set_cons_succ]
    refine wpAnyH_ready (rs := [4, 9]) (by kernel_rfl) (by simp) ?_
    refine AllReadyH.cons (by simp only [List.getElem?_toArray, List.getElem?_cons_succ, List.getElem?_cons_zero]; rfl) (fun KQ hK => ?_) ?_
    · skip
      refine step_app_list _ (by rfl) _ _ (by rfl) bA oA cc s.ns (by rfl) (by rfl) (HIA.out _ HST0.out.1) hln ?_
      intro gC cC wC hO hc hg hl
      have HST1 := Lib.hid (HST0.out.appC hO hg)
      clear hO hc hg hl
      refine hK.out _ _ ?_ (fun hHeld => ?_)
      · exact HSS.out _ HST1.out.1
      clear hK KQ
      try simp only [Act.put, List.setIfInBounds_toArray, List.set_cons_zero, List.set_cons_succ]
      refine wpAnyH_ready (rs := [7, 9]) (by kernel_rfl) (by simp) ?_
      refine AllReadyH.cons (by simp only [List.getElem?_toArray, List.getElem?_cons_succ, List.getElem?_cons_zero]; rfl) (fun KQ hK => ?_) ?_
      · skip
        refine step_app_list _ (by rfl) _ _ (by rfl) bK oK ck s.cs (by rfl) (by rfl) (HIK.out _ HST1.out.1) hlc ?_
        intro gK cK wK hO hc hg hl
        have HST2 := Lib.hid (HST1.out.appK hO hg)
        clear hO hc hg hl
        refine hK.out _ _ ?_ (fun hHeld => ?_)
        · exact HSS.out _ HST2.out.1
        clear hK KQ
        try simp only [Act.put, List.setIfInBounds_toArray, List.set_cons_zero, List.set_cons_succ]
        refine wpAnyH_take (i := 8) (v := .agg #[.int .i64 t, .slice (some ⟨gC, 0, none⟩) s.ns.length cC, .slice (some ⟨gK, 0, none⟩) s.cs.length cK, .slice none 0 0]) (by simp only [List.getElem?_toArray, List.getElem?_cons_succ, List.getElem?_cons_zero]; rfl) (by kernel_rfl) (by kernel_rfl) (by kernel_rfl) (by exact fun _ _ _ h => h) (yields_mem (by rfl) (.tmp 7) (.tmp 10) (.tmp 13) (by rfl) t (some ⟨gC, 0, none⟩) s.ns.length cC (some ⟨gK, 0, none⟩) s.cs.length cK (by rfl) (by rfl) (by rfl)) (by assumption) ?_
        try simp only [Act.put, List.setIfInBounds_toArray, List.set_cons_zero, List.set_cons_succ]
        refine wpAnyH_ready (rs := [9]) (by kernel_rfl) (by simp) ?_
        refine AllReadyH.cons (by simp only [List.getElem?_toArray, List.getElem?_cons_succ, List.getElem?_cons_zero]; rfl) (fun KQ hK => ?_) ?_
        · skip
          go_simp
          have HST3 := Lib.hid HST2.out.made
          refine hK.out _ _ ?_ (fun hHeld => ?_)
          · exact HSS.out _ HST3.out.1
          clear hK KQ
          try simp only [Act.put, List.setIfInBounds_toArray, List.set_cons_zero, List.set_cons_succ]
          refine wpAnyH_ready (rs := [10]) (by kernel_rfl) (by simp) ?_
          refine AllReadyH.cons (by simp only [List.getElem?_toArray, List.getElem?_cons_succ, List.getElem?_cons_zero]; rfl) (fun KQ hK => ?_) ?_
          · skip
            go_simp
            refine hK.out _ _ ?_ (fun hHeld => ?_)
            · exact HSS.out _ (HST2.out.fin t).2
            clear hK KQ
            try simp only [Act.put, List.setIfInBounds_toArray, List.set_cons_zero, List.set_cons_succ]
            refine wpAnyH_done (by kernel_rfl) ?_ _
            go_wp2_with fail
            go_meet
            exact ⟨_, rfl, _, _, _, _, HST2.out.fin t⟩
          exact AllReadyH.nil
        exact AllReadyH.nil
      refine AllReadyH.cons (by simp only [List.getElem?_toArray, List.getElem?_cons_succ, List.getElem?_cons_zero]; rfl) (fun KQ hK => ?_) ?_
      · skip
        go_simp
        have HST2 := Lib.hid HST1.out.made
        refine hK.out _ _ ?_ (fun hHeld => ?_)
        · exact HSS.out _ HST2.out.1
        clear hK KQ
        try simp only [Act.put, List.setIfInBounds_toArray, List.set_cons_zero, List.set_cons_succ]
        refine wpAnyH_ready (rs := [7]) (by kernel_rfl) (by simp) ?_
        refine AllReadyH.cons (by simp only [List.getElem?_toArray, List.getElem?_cons_succ, List.getElem?_cons_zero]; rfl) (fun KQ hK => ?_) ?_
        · skip
          refine step_app_list _ (by rfl) _ _ (by rfl) bK oK ck s.cs (by rfl) (by rfl) (HIK.out _ HST2.out.1) hlc ?_
          intro gK cK wK hO hc hg hl
          have HST3 := Lib.hid (HST2.out.appK hO hg)
          clear hO hc hg hl
          refine hK.out _ _ ?_ (fun hHeld => ?_)
          · exact HSS.out _ HST3.out.1
          clear hK KQ
          try simp only [Act.put, List.setIfInBounds_toArray, List.set_cons_zero, List.set_cons_succ]
          refine wpAnyH_take (i := 8) (v := .agg #[.int .i64 t, .slice (some ⟨gC, 0, none⟩) s.ns.length cC, .slice (some ⟨gK, 0, none⟩) s.cs.length cK, .slice none 0 0]) (by simp only [List.getElem?_toArray, List.getElem?_cons_succ, List.getElem?_cons_zero]; rfl) (by kernel_rfl) (by kernel_rfl) (by kernel_rfl) (by exact fun _ _ _ h => h) (yields_mem (by rfl) (.tmp 7) (.tmp 10) (.tmp 13) (by rfl) t (some ⟨gC, 0, none⟩) s.ns.length cC (some ⟨gK, 0, none⟩) s.cs.length cK (by rfl) (by rfl) (by rfl)) (by assumption) ?_
          try simp only [Act.put, List.setIfInBounds_toArray, List.set_cons_zero, List.set_cons_succ]
          refine wpAnyH_ready (rs := [10]) (by kernel_rfl) (by simp) ?_
          refine AllReadyH.cons (by simp only [List.getElem?_toArray, List.getElem?_cons_succ, List.getElem?_cons_zero]; rfl) (fun KQ hK => ?_) ?_
          · skip
            obtain ⟨z0, z1, z2, z3, f0, f1, f2, f3⟩ := HST3.out.cells
            go_simp
            clear z0 z1 z2 z3 f0 f1 f2 f3
            refine hK.out _ _ ?_ (fun hHeld => ?_)
            · exact HSS.out _ (HST3.out.stored _ _ _ _).2
            clear hK KQ
            try simp only [Act.put, List.setIfInBounds_toArray, List.set_cons_zero, List.set_cons_succ]
            refine wpAnyH_done (by kernel_rfl) ?_ _
            go_wp2_with fail
            go_meet
            exact ⟨_, rfl, _, _, _, _, HST3.out.done t⟩
          exact AllReadyH.nil
        exact AllReadyH.nil
      exact AllReadyH.nil
    refine AllReadyH.cons (by simp only [List.getElem?_toArray, List.getElem?_cons_succ, List.getElem?_cons_zero]; rfl) (fun KQ hK => ?_) ?_
    · skip
      go_simp
      have HST1 := Lib.hid HST0.out.made
      refine hK.out _ _ ?_ (fun hHeld => ?_)
      · exact HSS.out _ HST1.out.1
      clear hK KQ
      try simp only [Act.put, List.setIfInBounds_toArray, List.set_cons_zero, List.set_cons_succ]
      refine wpAnyH_ready (rs := [4]) (by kernel_rfl) (by simp) ?_
      refine AllReadyH.cons (by simp only [List.getElem?_toArray, List.getElem?_cons_succ, List.getElem?_cons_zero]; rfl) (fun KQ hK => ?_) ?_
      · skip
        refine step_app_list _ (by rfl) _ _ (by rfl) bA oA cc s.ns (by rfl) (by rfl) (HIA.out _ HST1.out.1) hln ?_
        intro gC cC wC hO hc hg hl
        have HST2 := Lib.hid (HST1.out.appC hO hg)
        clear hO hc hg hl
        refine hK.out _ _ ?_ (fun hHeld => ?_)
        · exact HSS.out _ HST2.out.1
        clear hK KQ
        try simp only [Act.put, List.setIfInBounds_toArray, List.set_cons_zero, List.set_cons_succ]
        refine wpAnyH_ready (rs := [7]) (by kernel_rfl) (by simp) ?_
        refine AllReadyH.cons (by simp only [List.getElem?_toArray, List.getElem?_cons_succ, List.getElem?_cons_zero]; rfl) (fun KQ hK => ?_) ?_
        · skip
          refine step_app_list _ (by rfl) _ _ (by rfl) bK oK ck s.cs (by rfl) (by rfl) (HIK.out _ HST2.out.1) hlc ?_
          intro gK cK wK hO hc hg hl
          have HST3 := Lib.hid (HST2.out.appK hO hg)
          clear hO hc hg hl
          refine hK.out _ _ ?_ (fun hHeld => ?_)
          · exact HSS.out _ HST3.out.1
          clear hK KQ
          try simp only [Act.put, List.setIfInBounds_toArray, List.set_cons_zero, List.set_cons_succ]
          refine wpAnyH_take (i := 8) (v := .agg #[.int .i64 t, .slice (some ⟨gC, 0, none⟩) s.ns.length cC, .slice (some ⟨gK, 0, none⟩) s.cs.length cK, .slice none 0 0]) (by simp only [List.getElem?_toArray, List.getElem?_cons_succ, List.getElem?_cons_zero]; rfl) (by kernel_rfl) (by kernel_rfl) (by kernel_rfl) (by exact fun _ _ _ h => h) (yields_mem (by rfl) (.tmp 7) (.tmp 10) (.tmp 13) (by rfl) t (some ⟨gC, 0, none⟩) s.ns.length cC (some ⟨gK, 0, none⟩) s.cs.length cK (by rfl) (by rfl) (by rfl)) (by assumption) ?_
          try simp only [Act.put, List.setIfInBounds_toArray, List.set_cons_zero, List.set_cons_succ]
          refine wpAnyH_ready (rs := [10]) (by kernel_rfl) (by simp) ?_
          refine AllReadyH.cons (by simp only [List.getElem?_toArray, List.getElem?_cons_succ, List.getElem?_cons_zero]; rfl) (fun KQ hK => ?_) ?_
          · skip
            obtain ⟨z0, z1, z2, z3, f0, f1, f2, f3⟩ := HST3.out.cells
            rw [show w1.drew.heap.size = w1.heap.size from rfl] at z0 z1 z2 z3 f0 f1 f2 f3
            go_simp
            clear z0 z1 z2 z3 f0 f1 f2 f3
            refine hK.out _ _ ?_ (fun hHeld => ?_)
            · exact HSS.out _ (HST3.out.stored _ _ _ _).2
            clear hK KQ
            try simp only [Act.put, List.setIfInBounds_toArray, List.set_cons_zero, List.set_cons_succ]
            refine wpAnyH_done (by kernel_rfl) ?_ _
            go_wp2_with fail
            go_meet
            exact ⟨_, rfl, _, _, _, _, HST3.out.done t⟩
          exact AllReadyH.nil
        exact AllReadyH.nil
      exact AllReadyH.nil
    exact AllReadyH.nil
  case rest =>
    obtain ⟨x, rfl, gC, cC, gK, cK, hR, hB⟩ := hcut
    have HR := Lib.hid hR
    clear hR
    have hw1s : w1.drew.heap.size = w1.heap.size := rfl
    rw [hw1s] at hB HR
    clear hw1s
    have hsz := HSZ.out
    go_wp2_with fail
    go_loopw [4] (fun vi wr => ∃ k : Nat, k ≤ s.ks.length ∧ vi = .int .i64 k ∧ (∃ V K, Hid (K.map Prod.fst = s.ks.take k) ∧ Hid (RS wr w1.heap.size x t (.slice (some ⟨gC, 0, none⟩) s.ns.length cC) s.ns (.slice (some ⟨gK, 0, none⟩) s.cs.length cK) s.cs V K)) ∧ Below w1.heap.size w1.drew wr) (fun vi _ => s.ks.length - (intOf vi).toNat)
    case atStart => exact ⟨0, Nat.zero_le _, rfl, ⟨_, [], Lib.hid rfl, HR⟩, hB⟩
    case round =>
      clear HR hB
      obtain ⟨k, hk, rfl, ⟨V, K, HKT, HR⟩, hbw⟩ := hrel
      have hbw1 : Below w1.heap.size w1 wr := (Below.refl w1.heap.size w1).drew.trans hbw
      have hBW : Below w.heap.size w wr := HB1.out.trans (hbw1.mono (by omega))
      have g3 := row_cell ((hbw1.block w.heap.size (by omega)).trans HH1.out) 3
      simp only [List.getElem?_toArray, List.getElem?_cons_succ, List.getElem?_cons_zero] at g3
      have hxl := HR.out.lt
      have hxb := HR.out.bm
      by_cases hlt : k < s.ks.length
      · obtain ⟨f, b, off, Ap, cp, hg, hAe, hbl, c0, c1, c2, c3, c4, c5, hcp, hfr'⟩ := (HCC.out.keep hBW).at_ hlt
        subst hAe
        have hfl := hfr f (by rw [← hg]; exact getD_mem hlt)
        obtain ⟨Ao, co, rfl, hco⟩ := HR.out.row.lenV
        have hKl : K.length = k := by have := congrArg List.length HKT.out; rw [List.length_map, List.length_take] at this; omega
        have HG := Lib.hid hg
        obtain ⟨W2, hW2⟩ : ∃ W2, W2 = wr.alloc (.cells #[.int .i64 f.mon, .int .i64 f.first, .int .i64 f.last, .int .i64 f.count, .slice Ap f.frame.length cp, .bool f.active] 46) := ⟨_, rfl⟩
        have hs2 : W2.heap.size = wr.heap.size + 1 := by rw [hW2]; simp
        have hb2 : Below wr.heap.size wr W2 := by rw [hW2]; exact (Below.refl _ _).alloc (Nat.le_refl _) _
        have hh5 : W2.heap[wr.heap.size]? = some (.cells #[.int .i64 f.mon, .int .i64 f.first, .int .i64 f.last, .int .i64 f.count, .slice Ap f.frame.length cp, .bool f.active] 46 (0, 0)) := by rw [hW2]; exact heap_alloc_new wr _
        have q4 := row_cell hh5 4
        simp only [List.getElem?_toArray, List.getElem?_cons_succ, List.getElem?_cons_zero] at q4
        have hI2 : IntsA W2 W2.heap.size Ap f.frame := (hfr'.keep (hb2.mono hBW.size)).more (by have := hBW.size; omega)
        have hS2 := HR.out.below hb2 (Nat.le_refl _)
        have hwf2 := hW2.symm
        have HB2 := Lib.hid hb2
        have HS2 := Lib.hid hS2
        have HI2' := Lib.hid hI2
        have HH5 := Lib.hid hh5
        have HS2E := Lib.hid hs2
        have HKL := Lib.hid hKl
        have hKb : K.length ≤ 1000 := by omega
        clear hg hW2 hb2 hS2 hI2 hh5 hs2 hfr' hKl
        have hbs := fun (w : World) (g3' cap3 : Nat) => run_bslice w f.mon f.first f.last f.count (some ⟨g3', 0, none⟩) f.frame.length cap3 f.active
        go_wp2_with (first
          | (at_builtin; refine wpl_app_list _ rfl _ _ rfl Ap cp f.frame rfl rfl HI2'.out hfl ?_; intro g3' cap3 W3 hO3 hc3 hg3 hl3; have hh3 := (hg3.block wr.heap.size (by have := HS2E.out; omega) (by simp)).trans HH5.out; have z4 := row_cell hh3 4; have y4 := row_frozen hh3 4; simp only [List.getElem?_toArray, List.getElem?_cons_succ, List.getElem?_cons_zero] at z4; obtain ⟨W4, hW4⟩ : ∃ W4, W4 = W3.setCell ⟨wr.heap.size, 4, none⟩ (.slice (some ⟨g3', 0, none⟩) f.frame.length cap3) := ⟨_, rfl⟩; have hB4 : Below wr.heap.size wr W4 := (by rw [hW4]; exact (HB2.out.grown hg3 (by have := HS2E.out; omega) (fun k hk => by cases hk)).setCell (p := ⟨wr.heap.size, 4, none⟩) (Nat.le_refl _) _); have hS4 := HR.out.below hB4 (Nat.le_refl _); have hh4 : W4.heap[wr.heap.size]? = some (.cells #[.int .i64 f.mon, .int .i64 f.first, .int .i64 f.last, .int .i64 f.count, .slice (some ⟨g3', 0, none⟩) f.frame.length cap3, .bool f.active] 46 (0, 0)) := (by rw [hW4, heap_setCell_same W3 wr.heap.size 4 _ 46 _ hh3]; rfl); have hO4 : OutI W4 W2.heap.size (.slice (some ⟨g3', 0, none⟩) f.frame.length cap3) f.frame := (by rw [hW4]; exact hO3.keepB (fun g hg => Below.heap_setCell W3 ⟨wr.heap.size, 4, none⟩ _ g (by have := (own_block_lt hO3 g hg).1; have := HS2E.out; show g ≠ wr.heap.size; omega))); have r3 := hS4.g 3; have a0 := row_cell hh4 0; have a1 := row_cell hh4 1; have a2 := row_cell hh4 2; have a3 := row_cell hh4 3; have a4 := row_cell hh4 4; have a5 := row_cell hh4 5; simp only [List.getElem?_toArray, List.getElem?_cons_succ, List.getElem?_cons_zero] at r3 a0 a1 a2 a3 a4 a5; have hwf4 := hW4.symm; have HF4 := Lib.hid (frame_W hS4 hO4 hc3 hfl.2 (by have := HS2E.out; omega) (own_block_lt hO4 g3' rfl).1 HR.out); have HC3 := Lib.hid hc3; have HS4 := Lib.hid hS4; have HB4 := Lib.hid hB4; clear hO3 hc3 hg3 hh3 hW4 hB4 hS4 hh4 hO4)
          | (at_builtin; refine app_code _ rfl _ _ rfl w1.heap.size (.slice Ao K.length co) K rfl (HS4.out.below ((Below.refl _ _).alloc (Nat.le_refl _) _) (Nat.le_refl _)).row W4.heap.size rfl (f, .slice (some ⟨g3', 0, none⟩) f.frame.length cap3) rfl (fun j u hj => (newcell _ _ _ _).trans (by simpa [cells6] using hj)) (by omega) (by have := HS4.out.bm; have := HS4.out.lt; simp; omega) ?_; intro g6 cap6 W6 hO6 hg6 hat6; have hx6 := hg6.block x (by have := HS4.out.lt; simp; omega) (fun e => HS4.out.nv e.symm); have hx5 := (Below.heap_alloc W4 (.cells #[.int .i64 f.mon, .int .i64 f.first, .int .i64 f.last, .int .i64 f.count, .slice (some ⟨g3', 0, none⟩) f.frame.length cap3, .bool f.active] 46) x HS4.out.lt).trans HS4.out.hm; have r6 := row_cell (hx6.trans hx5) 3; have f6 := row_frozen (hx6.trans hx5) 3; simp only [List.getElem?_toArray, List.getElem?_cons_succ, List.getElem?_cons_zero] at r6; have HO6 := Lib.hid hO6; have HG6 := Lib.hid hg6; have HAT6 := Lib.hid hat6; clear hO6 hg6 hat6 hx6 hx5))
        have hB5 : Below W4.heap.size W4 (W4.alloc (.cells #[.int .i64 f.mon, .int .i64 f.first, .int .i64 f.last, .int .i64 f.count, .slice (some ⟨g3', 0, none⟩) f.frame.length cap3, .bool f.active] 46)) := (Below.refl _ _).alloc (Nat.le_refl _) _
        have hS5 := HS4.out.below hB5 (Nat.le_refl _)
        have hvl := own_block_lt hS5.row
        have hfin := hS5.putRow HG6.out HO6.out (by rcases HAT6.out with e | e; exact .inl e; exact .inr (Nat.le_of_eq e.symm)) (fun q hq => by
          rcases List.mem_append.1 hq with hq | hq
          · exact .inl hq
          · rw [List.mem_singleton] at hq; subst hq; exact .inr (HF4.out.keep hB5.size (fun b hb _ => hB5.block b hb) (fun _ _ hu => hu)))
        have hbel : Below w1.heap.size w1.drew (W6.setCell ⟨x, 3, none⟩ (.slice (some ⟨g6, 0, none⟩) (K.length + 1) cap6)) := by
          have h4 : Below w1.heap.size w1.drew (W4.alloc (.cells #[.int .i64 f.mon, .int .i64 f.first, .int .i64 f.last, .int .i64 f.count, .slice (some ⟨g3', 0, none⟩) f.frame.length cap3, .bool f.active] 46)) := hbw.trans ((HB4.out.trans (hB5.mono HB4.out.size)).mono (by have := hbw1.size; omega))
          exact (h4.grown HG6.out (by have := hbw1.size; have := HB4.out.size; simp; omega) (fun k hk => (hvl k hk).1)).setCell hxb _
        have HFIN := Lib.hid hfin
        have hmap : (K ++ [(f, Value.slice (some ⟨g3', 0, none⟩) f.frame.length cap3)]).map Prod.fst = s.ks.take (k + 1) := by
          rw [List.map_append, HKT.out, List.take_succ_eq_append_getElem hlt]
          congr 1
          show [f] = _
          rw [← HG.out, List.getD_eq_getElem?_getD, List.getElem?_eq_getElem hlt]
          rfl
        have HMAP := Lib.hid hmap
        clear hfin hmap hS5 hvl
        go_roundw
        case rel => exact ⟨k + 1, by omega, by go_num, ⟨_, _, HMAP, HFIN⟩, hbel⟩
        case measure => simp [intOf]; omega
      · obtain rfl : k = s.ks.length := by omega
        obtain ⟨Ao, co, rfl, hco⟩ := HR.out.row.lenV
        have hKs : K.map Prod.fst = s.ks := by rw [HKT.out, List.take_length]
        have q0 := HR.out.g 0
        have q1 := HR.out.g 1
        have q2 := HR.out.g 2
        have q3 := HR.out.g 3
        have hz := (hbw1.block (w.heap.size + 1) (by omega)).trans HH2.out
        have z0 := row_cell hz 0
        have z1 := row_cell hz 1
        have z2 := row_cell hz 2
        have z3 := row_cell hz 3
        have y0 := row_frozen hz 0
        have y1 := row_frozen hz 1
        have y2 := row_frozen hz 2
        have y3 := row_frozen hz 3
        simp only [List.getElem?_toArray, List.getElem?_cons_succ, List.getElem?_cons_zero] at q0 q1 q2 q3 z0 z1 z2 z3
        have hxw : x ≠ w.heap.size + 1 := by omega
        have HKS := Lib.hid hKs
        have HZ := Lib.hid hz
        clear hKs hz
        go_wp2_with fail
        obtain ⟨d, hu⟩ := mem_under
        (try simp only [Exit.inBlock, Exit.then])
        refine bodyPost_ret (results_cell_row rfl _ _ (w.heap.size + 1) 27 _ (0, 0) (.struct d) rfl (put4 HZ.out) hu rfl mem_info) rfl ⟨_, rfl, ?_, below_put4 hBW (Nat.le_succ _) _ _ _ _⟩
        have hOW := HR.out.own
        rw [HKS.out] at hOW
        exact (hOW.keepH (fun b hb _ => heap_put4 (by omega) _ _ _ _) (by simp)).base (by omega)
end Go.Proofs.YtonpemikodajdaaDoor

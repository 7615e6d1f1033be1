/- Walks of the slots: the reference's search and need, Need, Schedule. -/
import Derived.Test.YtlbbhlkbhegegaaTg
import Derived.Test.YtlbbhlkbhegegaaSl4
import Derived.Maps.OwnOps
import Derived.Maps.RangeWalk
/- Plain: the reference's clash, free, search and what they mean; rows of places. -/
namespace Go.Proofs.Ytlbbhlkbhegegaa
open Go.RowKit

def pg (x : MPlace) : MGate := ⟨x.slot, x.base⟩
theorem minI_nat {a b : Int} (ha : 0 ≤ a) (hb : 0 ≤ b) : minI a b = ((min a.toNat b.toNat : Nat) : Int) := by
  unfold minI
  split <;> omega
theorem clash_apart {a b : MGate} {x y : MPlace} (ha : 0 ≤ a.delay) (hb : 0 ≤ b.delay) : clashB a b (pg x) (pg y) = false ↔ apartM (mm a) (mm b) x y := by
  unfold clashB apartM pg mm
  dsimp only
  rw [minI_nat ha hb, Bool.and_eq_false_iff, Bool.or_eq_false_iff, beq_eq_false_iff_ne, bne_eq_false_iff_eq, beq_eq_false_iff_ne]
  have e : ∀ u v k : Nat, ((u : Int) % (k : Int) ≠ (v : Int) % (k : Int)) ↔ u % k ≠ v % k := fun u v k => by
    rw [← Int.natCast_emod, ← Int.natCast_emod]
    exact not_congr Int.ofNat_inj
  rw [e]
  constructor
  · rintro (h | h) hs
    · exact absurd (by rw [hs]) h
    · exact h
  · intro h
    by_cases hs : x.slot = y.slot
    · exact .inr (h hs)
    · exact .inl fun h2 => hs (by exact_mod_cast h2)
/-- the first messages at their places -/
def placedK (m : List MGate) (xs : List MPlace) : Placed := (m.map mm).zip xs
theorem placed_mem {m : List MGate} {xs : List MPlace} {p : MMsg × MPlace} : p ∈ placedK m xs ↔ ∃ (k : Nat) (a : MGate) (x : MPlace), m[k]? = some a ∧ xs[k]? = some x ∧ p = (mm a, x) := by
  unfold placedK
  rw [List.mem_iff_getElem?]
  constructor
  · rintro ⟨k, hk⟩
    rw [List.getElem?_zip_eq_some, List.getElem?_map] at hk
    obtain ⟨h1, h2⟩ := hk
    rcases ha : m[k]? with _ | a
    · rw [ha] at h1; cases h1
    · rw [ha] at h1
      injection h1 with h1
      exact ⟨k, a, p.2, ha, h2, by rw [h1]⟩
  · rintro ⟨k, a, x, h1, h2, rfl⟩
    refine ⟨k, ?_⟩
    rw [List.getElem?_zip_eq_some, List.getElem?_map, h1]
    exact ⟨rfl, h2⟩
theorem placed_snoc {m : List MGate} {xs : List MPlace} {g : MGate} {x : MPlace} (hg : m[xs.length]? = some g) : placedK m (xs ++ [x]) = placedK m xs ++ [(mm g, x)] := by
  unfold placedK
  have hk := lt_of_get hg
  have h1 : m.map mm = (m.map mm).take xs.length ++ (mm g :: (m.map mm).drop (xs.length + 1)) := by
    have h2 : (m.map mm)[xs.length]? = some (mm g) := by rw [List.getElem?_map, hg]; rfl
    rw [← drop_cons h2, List.take_append_drop]
  have hl : ((m.map mm).take xs.length).length = xs.length := by rw [List.length_take, List.length_map]; omega
  rw [h1, List.zip_append hl]
  congr 1
  · rw [← h1]
    apply List.ext_getElem?
    intro i
    rcases Nat.lt_or_ge i xs.length with hi | hi
    · simp only [List.zip, List.getElem?_zipWith, List.getElem?_take_of_lt hi]
    · rw [List.getElem?_eq_none (by rw [List.length_zip, hl]; omega), List.getElem?_eq_none (by rw [List.length_zip, List.length_map]; omega)]
  · simp
theorem row_free {m : List MGate} {xs : List MPlace} {g : MGate} {x : MPlace} (hg : m[xs.length]? = some g) (hm : ∀ a ∈ m, 0 ≤ a.delay) : rowOk m ((xs ++ [x]).map pg) xs.length = true ↔ freeP (placedK m xs) (mm g) x := by
  have hk := lt_of_get hg
  have hx : pairAt ((xs ++ [x]).map pg) xs.length = pg x := pairAt_of (by rw [List.getElem?_map, List.getElem?_append_right (Nat.le_refl _), Nat.sub_self]; rfl)
  have hgg := pairAt_of hg
  have hgm := hm g (List.mem_of_getElem? hg)
  have key : ∀ k a y, m[k]? = some a → xs[k]? = some y → (pairOk m ((xs ++ [x]).map pg) xs.length k = true ↔ apartM (mm a) (mm g) y x) := fun k a y ha hy => by
    have hky := lt_of_get hy
    have h1 : pairAt ((xs ++ [x]).map pg) k = pg y := pairAt_of (by rw [List.getElem?_map, List.getElem?_append_left hky, hy]; rfl)
    rw [pairOk_of (pairAt_of ha) hgg h1 hx, Bool.not_eq_true', clash_apart (hm a (List.mem_of_getElem? ha)) hgm]
  unfold rowOk
  rw [List.all_eq_true]
  constructor
  · intro h p hp
    obtain ⟨k, a, y, ha, hy, rfl⟩ := placed_mem.1 hp
    exact (key k a y ha hy).1 (h k (List.mem_range.2 (lt_of_get hy)))
  · intro h k hkr
    have hkl := List.mem_range.1 hkr
    have hy : xs[k]? = some xs[k] := List.getElem?_eq_getElem hkl
    have ha : m[k]? = some (m[k]'(by omega)) := List.getElem?_eq_getElem (by omega)
    exact (key k _ _ ha hy).2 (h _ (placed_mem.2 ⟨k, _, _, ha, hy, rfl⟩))
theorem slotCells_len (xs : List MPlace) : (slotCells xs).length = xs.length * 2 := by
  induction xs with
  | nil => rfl
  | cons x xs ih =>
    show (slotCells (x :: xs)).length = _
    unfold slotCells at ih ⊢
    rw [List.flatMap_cons, List.length_append, ih, List.length_cons]
    show 2 + xs.length * 2 = (xs.length + 1) * 2
    omega
theorem slotCells_at : ∀ (xs : List MPlace) (i j : Nat), i < xs.length → j < 2 → (slotCells xs).getD (i * 2 + j) undef = gateCell (xs.map pg) i j
  | [], i, j, h, _ => by simp at h
  | x :: xs, 0, j, _, hj => by
    match j, hj with
    | 0, _ => rfl
    | 1, _ => rfl
  | x :: xs, i + 1, j, h, hj => by
    have ih := slotCells_at xs i j (by simpa using h) hj
    have e : slotCells (x :: xs) = .int .i64 (x.slot : Int) :: .int .i64 (x.base : Int) :: slotCells xs := rfl
    rw [e, show (i + 1) * 2 + j = (i * 2 + j) + 1 + 1 by omega]
    simp only [List.getD_eq_getElem?_getD, List.getElem?_cons_succ]
    rw [List.getD_eq_getElem?_getD] at ih
    rw [ih]
    unfold gateCell
    simp only [List.map_cons, List.getD_eq_getElem?_getD, List.getElem?_cons_succ]
theorem OutX.gates {w : World} {base : Nat} {v : Value} {xs : List MPlace} (h : OutX w base v xs) : ∃ A c, v = .slice A xs.length c ∧ xs.length ≤ c ∧ GatesA w w.heap.size A (xs.map pg) := by
  obtain ⟨hl, h'⟩ := id h
  rcases h' with ⟨hv, h0⟩ | ⟨g, cap, cur, hv, hb, hh, hn, r⟩
  · exact ⟨none, 0, by rw [hv, h0], by omega, fun hn => by rw [List.length_map] at hn; omega⟩
  · refine ⟨_, cap, hv, hn, fun hn0 => ?_⟩
    rw [List.length_map] at hn0
    subst hv
    obtain ⟨_, _, ho⟩ := ownF_of_row (size := 2) h hn0
    refine ⟨g, 0, rfl, ho.lt, fun i j hi hj => ?_⟩
    rw [List.length_map] at hi
    rw [Nat.zero_add, ho.cell (show i * 2 + j < xs.length * 2 by omega), slotCells_at xs i j hi hj]
section
variable {ops : Array Oper} {rest : List Oper} {o : Oper} {a : Act} {Q : Exit → Act → World → Prop}
theorem run_append_none (w : World) (ty : TypeId) (c : Nat) (A : Option Addr) : (Builtin.append_ #[55, 55] ty #[.slice none 0 0, .slice A 0 c]).run Try.prog w = .ok (.slice none 0 0) w := by
  obtain ⟨i0, hi, hz0, hz1, hz2⟩ := info_parts info_slot
  rcases A with _ | ad
  · simp [Builtin.append_, run_underlying under_slots, sizeOf, typeInfo, hi, Builtin.lenOf, Builtin.firstCells]
  · simp [Builtin.append_, run_underlying under_slots, sizeOf, typeInfo, hi, Builtin.lenOf, Builtin.firstCells, loadCells, loadCellsFrom]
set_option maxRecDepth 100000 in
/-- append(nil, places...) -/
theorem app_slots (w : World) (hg : o.guard = none) (s x : Operand) (ho : o.op = .call { callee := .builtin .append, args := #[s, x], argTypes := #[55, 55] }) (hs : a.eval s = .slice none 0 0)
    (A : Option Addr) (cap : Nat) (l : List MPlace) (hx : a.eval x = .slice A l.length cap) (h : GatesA w w.heap.size A (l.map pg)) (hlen : l.length ≤ 1000)
    (hK : ∀ v w', OutX w' w.heap.size v l → Below w.heap.size w w' → wpList Try.prog ops Q rest (a.put o.dst v) w') : wpList Try.prog ops Q (o :: rest) a w := by
  obtain ⟨i0, hi, hz0, hz1, hz2⟩ := info_parts info_slot
  rcases Nat.eq_zero_or_pos l.length with h0 | h0
  · obtain rfl : l = [] := List.eq_nil_of_length_eq_zero h0
    refine wpList_plain hg fun _ hKK => ?_
    have hr := run_append_none w o.type cap A
    unfold Oper.wp execOp
    simp only [ho, resolve, invoke, builtin, Sem.run_bind, Sem.run_pure, Result.andThen_ok, List.map_toArray, List.map_cons, List.map_nil, hs, hx, List.length_nil, hr]
    exact hKK _ _ (hK (.slice none 0 0) w (OutX.nil _ _) (Below.refl _ _))
  obtain ⟨b, off, rfl, hb, hc⟩ := h (by rw [List.length_map]; exact h0)
  refine wpList_append_own w hg s x 55 ho w.heap.size 96 i0 _ 2 16 under_slots hi hz0 hz1 hz2 rfl (by decide) _ 0 [] hs (World.ownsRow_nil w w.heap.size 96 2) ⟨b, off, none⟩ l.length cap (slotCells l) hx (slotCells_len l) ?_ ?_ (by unfold maxLen; omega) (by omega) (Nat.le_refl _) (fun v' w' h1 h2 h3 => ?_)
  · intro j u hj
    have hjl : j < l.length * 2 := by
      rw [← slotCells_len]
      exact lt_of_get hj
    have h1 := hc (j / 2) (j % 2) (by rw [List.length_map]; omega) (by omega)
    have h2 := slotCells_at l (j / 2) (j % 2) (by omega) (by omega)
    rw [show j / 2 * 2 + j % 2 = j by omega, List.getD_eq_getElem?_getD, hj] at h2
    have h2 : u = gateCell (l.map pg) (j / 2) (j % 2) := h2
    rw [add_none', h2, ← h1, show off + j / 2 * 2 + j % 2 = off + j by omega]
  · intro u hu
    unfold slotCells at hu
    obtain ⟨p, _, hp⟩ := List.mem_flatMap.1 hu
    rcases List.mem_cons.1 hp with rfl | hp
    · rfl
    · obtain rfl := List.mem_singleton.1 hp
      rfl
  · rw [Nat.zero_add, List.nil_append] at h1
    exact hK v' w' h1 ((Below.refl _ _).grown h2 (Nat.le_refl _) (fun k hk => by cases hk))
end
end Go.Proofs.Ytlbbhlkbhegegaa

/- Walks: the reference's search. Printed by gen_tl4.py. -/
namespace Go.Proofs.Ytlbbhlkbhegegaa
open Go.RowKit

theorem OutX.snoc {w : World} {base : Nat} {v : Value} {xs : List MPlace} {x : MPlace} (h : OutX w base v (xs ++ [x])) : ∃ A c, v = .slice A (xs.length + 1) c ∧ xs.length + 1 ≤ c ∧ GatesA w w.heap.size A ((xs ++ [x]).map pg) := by
  obtain ⟨A, c, h1, h2, h3⟩ := h.gates
  rw [show (xs ++ [x]).length = xs.length + 1 by simp] at h1 h2
  exact ⟨A, c, h1, h2, h3⟩
/-- what search leaves -/
def SearchP (S : Nat) (m : List MGate) (xs : List MPlace) (w : World) (e : Ending) (w' : World) : Prop :=
  Below w.heap.size w w' ∧ ((∃ ys A c, FirstR S (placedK m xs) ((m.map mm).drop xs.length) ys ∧ e = .returned (.tuple #[.slice A (xs ++ ys).length c, .bool true]) ∧ (xs ++ ys).length ≤ c ∧ GatesA w' w'.heap.size A ((xs ++ ys).map pg)) ∨
    (¬ Can S (placedK m xs) ((m.map mm).drop xs.length) ∧ e = .returned (.tuple #[.slice none 0 0, .bool false])))
set_option maxRecDepth 100000 in
set_option maxHeartbeats 8000000 in
theorem search_any (s C : Nat) (A : Option Addr) (cap : Nat) (m : List MGate) (hs : s ≤ 30) (hm60 : m.length ≤ 60) (hmo : ∀ (i : Nat) (g : MGate), m[i]? = some g → 1 ≤ g.delay ∧ g.delay ≤ 64) : ∀ (d : Nat) (xs : List MPlace) (L : Option Addr) (lc : Nat) (w : World), xs.length + d = m.length → GatesA w w.heap.size A m → GatesA w w.heap.size L (xs.map pg) → xs.length ≤ lc → (∀ x ∈ xs, x.base ≤ 64) →
    Calls Try.prog 94 #[.agg #[.int .i64 (s : Int), .int .i64 (C : Int), .slice A m.length cap], .slice L xs.length lc] w (SearchP s m xs w)
  | 0, xs, L, lc, w, hd, h, hL, hlc, hxb => by
    have HB : Hid (Below w.heap.size w (w.alloc (.cells #[.int .i64 (s : Int), .int .i64 (C : Int), .slice A m.length cap] 54))) := (Below.refl _ _).alloc (Nat.le_refl _) _
    have hx0 := heap_alloc_new w (.cells #[.int .i64 (s : Int), .int .i64 (C : Int), .slice A m.length cap] 54)
    obtain ⟨w1, hw1⟩ : ∃ w1, w.alloc (.cells #[.int .i64 (s : Int), .int .i64 (C : Int), .slice A m.length cap] 54) = w1 := ⟨_, rfl⟩
    rw [hw1] at hx0 HB
    have a2 := cell_of_row w1 _ 2 _ _ _ hx0
    simp only [List.getElem?_toArray, List.getElem?_cons_succ, List.getElem?_cons_zero] at a2
    have HL1 : Hid (GatesA w1 w1.heap.size L (xs.map pg)) := (hL.below HB.out (Nat.le_refl _)).more HB.out.size
    have hn : ((xs.length : Int) == (m.length : Int)) = true := by rw [beq_iff_eq]; omega
    have HFR : Hid (FirstR s (placedK m xs) ((m.map mm).drop xs.length) []) := by show FirstR _ _ _ _; rw [List.drop_of_length_le (by rw [List.length_map]; omega)]; trivial
    have HLC := Lib.hid hlc
    clear hx0 h hL hlc hd hxb hs hm60 hmo
    go_enter Try.func94, Try.ntmps94
    go_upto_region 1 with fail
    (try rw [hw1])
    clear hw1
    go_wp2_with fail
    go_ret2
    exact ⟨HB.out, .inl ⟨[], L, lc, HFR.out, by rw [List.append_nil]; rfl, by rw [List.append_nil]; exact HLC.out, by rw [List.append_nil]; exact HL1.out⟩⟩
  | d + 1, xs, L, lc, w, hd, h, hL, hlc, hxb => by
    have hE := SEnv.make (S := s) (C := C) (cap := cap) (t := 54) h
    have hkm : xs.length < m.length := by omega
    obtain ⟨g, hg⟩ : ∃ g, m[xs.length]? = some g := ⟨_, List.getElem?_eq_getElem hkm⟩
    have hgo := hmo _ _ hg
    obtain ⟨e, he⟩ : ∃ e : Nat, g.delay = (e : Int) := ⟨g.delay.toNat, by omega⟩
    have hmg : mm g = ⟨g.rate, e⟩ := by unfold mm; rw [he]; rfl
    have he64 : 1 ≤ e ∧ e ≤ 64 := by omega
    obtain ⟨w1, hw1⟩ : ∃ w1, w.alloc (.cells #[.int .i64 (s : Int), .int .i64 (C : Int), .slice A m.length cap] 54) = w1 := ⟨_, rfl⟩
    rw [hw1] at hE
    have HX : Hid (∀ W, Below w1.heap.size w1 W → (W.cell? ⟨w.heap.size, 0, none⟩ = some (.int .i64 (s : Int)) ∧ W.cell? ⟨w.heap.size, 1, none⟩ = some (.int .i64 (C : Int)) ∧ W.cell? ⟨w.heap.size, 2, none⟩ = some (.slice A m.length cap)) ∧ GatesA W W.heap.size A m ∧ GatesA W W.heap.size L (xs.map pg)) := fun W hW => by
      have k := hE.below hW hE.size
      exact ⟨⟨k.c0, k.c1, k.c2⟩, k.msgs.more (by have := k.size; omega), (hL.below (hE.old.trans (hW.mono (Nat.le_of_lt hE.size))) (Nat.le_refl _)).more (by have := k.size; omega)⟩
    have HGE : Hid (∀ W, Below w1.heap.size w1 W → ∃ b off, A = some ⟨b, off, none⟩ ∧ W.cell? ⟨b, off + xs.length * 2 + 1, none⟩ = some (.int .i64 (e : Int))) := fun W hW => by
      obtain ⟨g', b, off, hg', hA, _, _, c1⟩ := (HX.out W hW).2.1.at_ hkm
      rw [hg] at hg'
      injection hg' with hg'
      subst hg'
      rw [he] at c1
      exact ⟨b, off, hA, c1⟩
    have HOLD : Hid (∀ W, Below w1.heap.size w1 W → Below w.heap.size w W) := fun W hW => hE.old.trans (hW.mono (Nat.le_of_lt hE.size))
    have HB0 : Hid (Below w1.heap.size w1 w1) := Below.refl _ _
    have hn : ((xs.length : Int) == (m.length : Int)) = false := by rw [beq_eq_false_iff_ne]; omega
    have HKM := Lib.hid hkm
    have HFRE : Hid (∀ (x : MPlace) (A9 : Option Addr) (c9 : Nat) (W : World) (r : Bool), Below w1.heap.size w1 W → x.base ≤ 64 → GatesA W W.heap.size A9 ((xs ++ [x]).map pg) → rowOk m ((xs ++ [x]).map pg) xs.length = r → Calls Try.prog 75 #[.agg #[.int .i64 (s : Int), .int .i64 (C : Int), .slice A m.length cap], .slice A9 (xs.length + 1) c9] W fun e' w' => e' = .returned (.bool r) ∧ Below W.heap.size W w') := fun x A9 c9 W r hW hx h9 hr => by
      have hl9 : ((xs ++ [x]).map pg).length = xs.length + 1 := by simp
      refine rfree_b s C A A9 cap c9 m ((xs ++ [x]).map pg) xs.length W (HX.out W hW).2.1 h9 (by omega) (by omega) hm60 (fun j hj => ?_) hr
      have h1 := hmo j _ (List.getElem?_eq_getElem (show j < m.length by omega))
      rw [← pairAt_of (List.getElem?_eq_getElem (show j < m.length by omega))] at h1
      refine ⟨h1, ?_⟩
      have hj' : j < (xs ++ [x]).length := by rw [List.length_map] at hj; exact hj
      rw [pairAt_of (show ((xs ++ [x]).map pg)[j]? = some (pg (xs ++ [x])[j]) by rw [List.getElem?_map, List.getElem?_eq_getElem hj']; rfl)]
      have hb : ((xs ++ [x])[j]).base ≤ 64 := by
        rcases List.mem_append.1 (List.getElem_mem hj') with h | h
        · exact hxb _ h
        · rw [List.mem_singleton.1 h]; exact hx
      unfold pg
      dsimp only
      omega
    have HREC : Hid (∀ (x : MPlace) (A9 : Option Addr) (c9 : Nat) (W : World), Below w1.heap.size w1 W → x.base ≤ 64 → xs.length + 1 ≤ c9 → GatesA W W.heap.size A9 ((xs ++ [x]).map pg) → Calls Try.prog 94 #[.agg #[.int .i64 (s : Int), .int .i64 (C : Int), .slice A m.length cap], .slice A9 (xs.length + 1) c9] W (SearchP s m (xs ++ [x]) W)) := fun x A9 c9 W hW hx hc h9 => by
      have := search_any s C A cap m hs hm60 hmo d (xs ++ [x]) A9 c9 W (by rw [List.length_append]; simp only [List.length_cons, List.length_nil]; omega) (HX.out W hW).2.1 h9 (by simpa using hc) (fun y hy => by
        rcases List.mem_append.1 hy with h | h
        · exact hxb _ h
        · rw [List.mem_singleton.1 h]; exact hx)
      rw [show (xs ++ [x]).length = xs.length + 1 by simp] at this
      exact this
    have HRF : Hid (∀ x : MPlace, rowOk m ((xs ++ [x]).map pg) xs.length = true ↔ freeP (placedK m xs) ⟨g.rate, e⟩ x) := fun x => hmg ▸ row_free hg fun a ha => by
      obtain ⟨i, hi⟩ := List.mem_iff_getElem?.1 ha
      have := hmo i a hi
      omega
    have HPS : Hid (∀ x : MPlace, placedK m (xs ++ [x]) = placedK m xs ++ [(⟨g.rate, e⟩, x)]) := fun x => hmg ▸ placed_snoc hg
    have HDR : Hid ((m.map mm).drop xs.length = ⟨g.rate, e⟩ :: (m.map mm).drop (xs.length + 1)) := by
      show _ = _
      rw [← hmg]
      exact drop_cons (by rw [List.getElem?_map, hg]; rfl)
    have HXL : Hid (xs.length ≤ 1000) := by show _ ≤ _; omega
    obtain ⟨⟨a0, a1, a2⟩, _⟩ := HX.out w1 (Below.refl _ _)
    generalize g.rate = sn at *
    clear hE h hL hlc hxb hd hmo hg hgo he hmg hkm
    go_enter Try.func94, Try.ntmps94
    go_upto_region 1 with fail
    (try rw [hw1])
    clear hw1
    go_wp2_with fail
    clear a0 a1 a2
    go_loopw [4, 5, 7] (fun v4 v5 vk wr => v4 = .slice none 0 0 ∧ v5 = .bool false ∧ ∃ k : Nat, k ≤ s ∧ vk = .int .i64 k ∧ Hid (∀ y : MPlace, y.slot < k → inP s ⟨sn, e⟩ y → BadAt s (placedK m xs) ⟨sn, e⟩ ((m.map mm).drop (xs.length + 1)) y) ∧ Hid (Below w1.heap.size w1 wr)) (fun _ _ vk _ => s - (intOf vk).toNat)
    case atStart => exact ⟨rfl, rfl, 0, Nat.zero_le _, rfl, (fun y hy => by omega), HB0.out⟩
    case round =>
      clear HB0
      obtain ⟨rfl, rfl, k, hk, rfl, HK, HB⟩ := hrel
      rename World => wr
      obtain ⟨⟨a0, a1, a2⟩, _⟩ := HX.out wr HB.out
      by_cases hlk : k < s
      · have hd2 : decide ((k : Int) < (s : Int)) = true := decide_eq_true (by omega)
        have HLK := Lib.hid hlk
        go_wp2_with fail
        clear a0 a1 a2
        (try rw [hd2])
        obtain ⟨wo, rfl⟩ : ∃ wo : World, wo = wr := ⟨_, rfl⟩
        go_loopw [4, 5, 8] (fun v4 v5 vb wr => v4 = .slice none 0 0 ∧ v5 = .bool false ∧ ∃ b : Nat, b ≤ e ∧ vb = .int .i64 b ∧ Hid (∀ j, j < b → BadAt s (placedK m xs) ⟨sn, e⟩ ((m.map mm).drop (xs.length + 1)) ⟨k, j⟩) ∧ Hid (Below w1.heap.size w1 wr)) (fun _ _ vb _ => e - (intOf vb).toNat)
        case atStart => exact ⟨rfl, rfl, 0, Nat.zero_le _, rfl, (fun j hj => by omega), HB.out⟩
        case round =>
          clear HB
          obtain ⟨rfl, rfl, b, hb, rfl, HJ, HB⟩ := hrel
          rename World => wr
          obtain ⟨⟨a0, a1, a2⟩, _, hgl⟩ := HX.out wr HB.out
          have HGL := Lib.hid hgl
          clear hgl
          obtain ⟨ab, ao, hA, c1⟩ := HGE.out wr HB.out
          subst hA
          have hkm := HKM.out
          by_cases hlb : b < e
          · have HLB := Lib.hid hlb
            go_upto_region 11 with (first | (at_builtin; refine app_slots _ rfl _ _ rfl rfl L lc xs rfl HGL.out HXL.out ?_; intro v5 w5 ho5 hb5; have HO5 := Lib.hid ho5; have HB5 := Lib.hid hb5; clear ho5 hb5) | (at_builtin; refine app_slot _ rfl _ _ rfl wr.heap.size v5 xs rfl (own_below HO5.out ((Below.refl w5.heap.size w5).alloc (Nat.le_refl _) _) (fun q hq => (own_block_lt HO5.out q hq).2)) w5.heap.size ⟨k, b⟩ rfl (newcell w5 _ _ _) (newcell w5 _ _ _) HXL.out (by have := HB5.out.size; rw [World.size_alloc]; omega) ?_; intro v9 w9 ho9 hg9; have HB59 : Hid (Below wr.heap.size wr w9) := ((HB5.out.alloc HB5.out.size _).grown hg9 (by have := HB5.out.size; rw [World.size_alloc]; omega) (fun q hq => (own_block_lt HO5.out q hq).1)); have HB9 : Hid (Below w1.heap.size w1 w9) := HB.out.trans (HB59.out.mono HB.out.size); obtain ⟨A9, c9, rfl, hc9, hgg9⟩ := ho9.snoc; have HC9 := Lib.hid hc9; have HG9 := Lib.hid hgg9; clear ho9 hg9 hc9 hgg9))
            obtain ⟨⟨a0, a1, a2⟩, _⟩ := HX.out w9 HB9.out
            rcases hro : rowOk m ((xs ++ [(⟨k, b⟩ : MPlace)]).map pg) xs.length
            · have HBA : Hid (BadAt s (placedK m xs) ⟨sn, e⟩ ((m.map mm).drop (xs.length + 1)) ⟨k, b⟩) := fun hfr => by
                have := (HRF.out ⟨k, b⟩).2 hfr
                rw [hro] at this
                cases this
              have H75 := Lib.hid (HFRE.out ⟨k, b⟩ A9 c9 w9 false HB9.out (by show b ≤ 64; omega) HG9.out hro)
              clear hro
              go_wp2_with (go_at_call 75; refine H75.out.mono ?_; rintro e' w10 ⟨rfl, hb10⟩; have HB10 : Hid (Below w1.heap.size w1 w10) := HB9.out.trans (hb10.mono HB9.out.size); clear hb10)
              go_roundw
              case rel => exact ⟨rfl, rfl, b + 1, by have := HLB.out; omega, by go_num, (fun j hj => by
                rcases Nat.lt_or_ge j b with h | h
                · exact HJ.out j h
                · obtain rfl : j = b := by omega
                  exact HBA.out), HB10.out⟩
              case measure => simp [intOf]; have := HLB.out; omega
            · have HFP : Hid (freeP (placedK m xs) ⟨sn, e⟩ ⟨k, b⟩) := (HRF.out ⟨k, b⟩).1 hro
              have H75 := Lib.hid (HFRE.out ⟨k, b⟩ A9 c9 w9 true HB9.out (by show b ≤ 64; omega) HG9.out hro)
              have hb64 : b ≤ 64 := by omega
              have HB64 := Lib.hid hb64
              clear hro
              go_wp2_with (first
                | (go_at_call 75; refine H75.out.mono ?_; rintro e' w10 ⟨rfl, hb10⟩; have HB910 := Lib.hid hb10; have HB10 : Hid (Below w1.heap.size w1 w10) := HB9.out.trans (hb10.mono HB9.out.size); obtain ⟨⟨a0, a1, a2⟩, _⟩ := HX.out w10 HB10.out; clear hb10)
                | (go_at_call 94; refine (HREC.out ⟨k, b⟩ A9 c9 w10 HB10.out HB64.out HC9.out ((HG9.out.below HB910.out (Nat.le_refl _)).more HB910.out.size)).mono ?_; rintro e' w11 ⟨hb11, (⟨ys, A11, c11, hf, rfl, hc11, hg11⟩ | ⟨hnc, rfl⟩)⟩))
              · have HB11 : Hid (Below w1.heap.size w1 w11) := HB10.out.trans (hb11.mono HB10.out.size)
                have HF := Lib.hid hf
                have HC11 := Lib.hid hc11
                have HG11 := Lib.hid hg11
                clear hf hc11 hg11 hb11
                go_wp2_with fail
                go_ret2
                refine ⟨HOLD.out _ HB11.out, .inl ⟨⟨k, b⟩ :: ys, A11, c11, ?_, ?_, ?_, ?_⟩⟩
                · rw [HDR.out]
                  have hf := HF.out
                  rw [HPS.out, show (xs ++ [(⟨k, b⟩ : MPlace)]).length = xs.length + 1 by simp] at hf
                  refine ⟨⟨⟨HLK.out, HLB.out⟩, HFP.out, ys, first_comp hf⟩, fun y hy hyi => ?_, hf⟩
                  obtain ⟨ys', yb⟩ := y
                  rcases hy with hy | ⟨hy1, hy2⟩
                  · exact HK.out ⟨ys', yb⟩ hy hyi
                  · dsimp only at hy1 hy2
                    subst hy1
                    exact HJ.out yb hy2
                · rw [show (xs ++ (⟨k, b⟩ : MPlace) :: ys).length = xs.length + (ys.length + 1) by simp]; rfl
                · have := HC11.out
                  rwa [List.append_assoc] at this
                · have := HG11.out
                  rwa [List.append_assoc] at this
              · have HB11 : Hid (Below w1.heap.size w1 w11) := HB10.out.trans (hb11.mono HB10.out.size)
                have HBA : Hid (BadAt s (placedK m xs) ⟨sn, e⟩ ((m.map mm).drop (xs.length + 1)) ⟨k, b⟩) := fun _ hc => hnc (by
                  rw [HPS.out, show (xs ++ [(⟨k, b⟩ : MPlace)]).length = xs.length + 1 by simp]
                  exact hc)
                clear hnc hb11
                go_wp2_with fail
                go_roundw
                case rel => exact ⟨rfl, rfl, b + 1, by have := HLB.out; omega, by go_num, (fun j hj => by
                  rcases Nat.lt_or_ge j b with h | h
                  · exact HJ.out j h
                  · obtain rfl : j = b := by omega
                    exact HBA.out), HB11.out⟩
                case measure => simp [intOf]; have := HLB.out; omega
          · obtain rfl : b = e := by omega
            go_wp2_with fail
            go_roundw
            case rel => exact ⟨rfl, rfl, k + 1, by omega, by go_num, (fun y hy hyi => by
              rcases Nat.lt_or_ge y.slot k with h | h
              · exact HK.out y h hyi
              · obtain ⟨ys, yb⟩ := y
                obtain rfl : ys = k := by dsimp only at hy h; omega
                exact HJ.out yb hyi.2), HB.out⟩
            case measure => simp [intOf]; omega
      · obtain rfl : k = s := by omega
        have HNC : Hid (¬ Can k (placedK m xs) ((m.map mm).drop xs.length)) := by
          rw [HDR.out]
          rintro ⟨zs, hz⟩
          match zs, hz with
          | z :: zs, hz => exact HK.out z hz.1.1 hz.1 hz.2.1 ⟨zs, hz.2.2⟩
        go_wp2_with fail
        go_ret2
        exact ⟨HOLD.out _ HB.out, .inr ⟨HNC.out, rfl⟩⟩
end Go.Proofs.Ytlbbhlkbhegegaa

/- Walks: the reference's need, Need, Schedule. Printed by gen_tm4.py. -/
namespace Go.Proofs.Ytlbbhlkbhegegaa
open Go.RowKit

theorem cyc_snoc {C : Nat} {l : List MMsg} {a : MMsg} {snd : Int} : cycS C (l ++ [a]) snd = cycS C l snd + if a.sender = snd then C / a.every else 0 := by
  unfold cycS
  rw [sumP_app, sumP_cons, sumP_nil]
  omega
theorem take_snoc {m : List MGate} {k : Nat} {g : MGate} (h : m[k]? = some g) : (m.take (k + 1)).map mm = (m.take k).map mm ++ [mm g] := by
  rw [List.take_add_one, h]
  simp
theorem cyc_bd {C : Nat} {snd : Int} : ∀ {l : List MMsg}, cycS C l snd ≤ l.length * C
  | [] => by unfold cycS; rw [sumP_nil]; omega
  | a :: l => by
    have ih := cyc_bd (C := C) (snd := snd) (l := l)
    unfold cycS at ih ⊢
    rw [sumP_cons, List.length_cons, Nat.add_mul, Nat.one_mul]
    have : (if a.sender = snd then C / a.every else 0) ≤ C := by
      split
      · exact Nat.div_le_self _ _
      · omega
    omega
theorem upC_le {C n k : Nat} (hC : 0 < C) (h : n ≤ k * C) : upC C n ≤ k := by
  unfold upC
  have h1 : (n + C - 1) / C < k + 1 := by
    rw [Nat.div_lt_iff_lt_mul hC, Nat.add_mul, Nat.one_mul]
    omega
  omega
/-- the sum up to a sender -/
noncomputable def needK (C : Nat) (l : List MMsg) (k : Nat) : Nat := sumU (fun i => upC C (cycS C l (i : Int))) k
theorem needK_succ {C : Nat} {l : List MMsg} {k : Nat} : needK C l (k + 1) = needK C l k + upC C (cycS C l (k : Int)) := rfl
theorem needK_bd {C : Nat} {l : List MMsg} (hC : 0 < C) (hl : l.length ≤ 60) : ∀ {k : Nat}, needK C l k ≤ k * 60
  | 0 => Nat.zero_le _
  | k + 1 => by
    have ih := needK_bd hC hl (k := k)
    have h1 : upC C (cycS C l (k : Int)) ≤ 60 := upC_le hC (Nat.le_trans cyc_bd (Nat.mul_le_mul_right _ hl))
    rw [needK_succ, Nat.add_mul, Nat.one_mul]
    omega
theorem div_nat (C e : Nat) : (C : Int).tdiv (e : Int) = ((C / e : Nat) : Int) := (Int.ofNat_tdiv C e).symm
theorem up_nat {C n : Nat} (hC : 0 < C) : ((n : Int) + (C : Int) - 1) / (C : Int) = ((upC C n : Nat) : Int) := by
  unfold upC
  rw [show (n : Int) + (C : Int) - 1 = ((n + C - 1 : Nat) : Int) by omega]
  exact (Int.natCast_ediv _ _).symm
set_option maxRecDepth 100000 in
set_option maxHeartbeats 8000000 in
theorem rneed_any (S : Int) (C : Nat) (A : Option Addr) (cap : Nat) (m : List MGate) (w : World) (h : GatesA w w.heap.size A m) (hm60 : m.length ≤ 60) (hC : 1 ≤ C ∧ C ≤ 64) (hmo : ∀ (i : Nat) (g : MGate), m[i]? = some g → (0 ≤ g.rate ∧ g.rate ≤ 1000) ∧ 1 ≤ g.delay ∧ g.delay ≤ 64) :
    Calls Try.prog 92 #[.agg #[.int .i64 S, .int .i64 (C : Int), .slice A m.length cap]] w fun e w' => e = .returned (.int .i64 ((needC C (m.map mm) : Nat) : Int)) ∧ Below w.heap.size w w' := by
  have hE := SEnv.make (S := S) (C := C) (cap := cap) (t := 54) h
  obtain ⟨w1, hw1⟩ : ∃ w1, w.alloc (.cells #[.int .i64 S, .int .i64 (C : Int), .slice A m.length cap] 54) = w1 := ⟨_, rfl⟩
  rw [hw1] at hE
  have HX : Hid (∀ W, Below w1.heap.size w1 W → (W.cell? ⟨w.heap.size, 1, none⟩ = some (.int .i64 (C : Int)) ∧ W.cell? ⟨w.heap.size, 2, none⟩ = some (.slice A m.length cap)) ∧ GatesA W W.heap.size A m) := fun W hW => by
    have k := hE.below hW hE.size
    exact ⟨⟨k.c1, k.c2⟩, k.msgs.more (by have := k.size; omega)⟩
  have HOLD : Hid (∀ W, Below w1.heap.size w1 W → Below w.heap.size w W) := fun W hW => hE.old.trans (hW.mono (Nat.le_of_lt hE.size))
  have HB0 : Hid (Below w1.heap.size w1 w1) := Below.refl _ _
  have HMO := Lib.hid hmo
  have HBD : Hid (∀ k, needK C (m.map mm) k ≤ k * 60) := fun k => needK_bd (by omega) (by rw [List.length_map]; exact hm60)
  have HCB : Hid (∀ k snd, cycS C ((m.take k).map mm) snd ≤ 3840) := fun k snd => by
    have h1 := cyc_bd (C := C) (snd := snd) (l := (m.take k).map mm)
    have h2 : ((m.take k).map mm).length ≤ 60 := by rw [List.length_map, List.length_take]; omega
    have h3 : ((m.take k).map mm).length * C ≤ 60 * 64 := Nat.mul_le_mul h2 hC.2
    omega
  have HFIN : Hid (needC C (m.map mm) = needK C (m.map mm) 1001) := rfl
  have HALL : Hid (∀ snd, cycS C ((m.take m.length).map mm) snd = cycS C (m.map mm) snd) := fun snd => by rw [List.take_length]
  have HZ : Hid (∀ snd, cycS C ((m.take 0).map mm) snd = 0) := fun snd => rfl
  have HUP : Hid (∀ (n : Nat) (W : World) (u : Nat), n ≤ 3840 → upC C n = u → Calls Try.prog 62 #[.int .i64 (n : Int), .int .i64 (C : Int)] W fun e w' => e = .returned (.int .i64 (u : Int)) ∧ W = w') := fun n W u hn hu => by
    have := rup_any (n : Int) (C : Int) W (by omega) (by omega) (by omega) (by omega)
    rw [up_nat (by omega), hu] at this
    exact this
  clear hE h hmo
  go_enter Try.func92, Try.ntmps92
  go_wp2_with fail
  (try rw [hw1])
  clear hw1
  go_loopw [3, 4] (fun v3 v4 wr => ∃ k : Nat, k ≤ 1001 ∧ v4 = .int .i64 k ∧ v3 = .int .i64 ((needK C (m.map mm) k : Nat) : Int) ∧ Hid (Below w1.heap.size w1 wr)) (fun _ v4 _ => 1001 - (intOf v4).toNat)
  case atStart => exact ⟨0, by omega, rfl, rfl, HB0.out⟩
  case round =>
    clear HB0
    obtain ⟨k, hk, rfl, rfl, HB⟩ := hrel
    rename World => wr
    by_cases hlk : k < 1001
    · have hd2 : decide ((k : Int) ≤ 1000) = true := decide_eq_true (by omega)
      have hbk := HBD.out k
      obtain ⟨nk, hnk⟩ : ∃ nk, needK C (m.map mm) k = nk := ⟨_, rfl⟩
      rw [hnk] at hbk ⊢
      have HNK := Lib.hid hnk
      clear hnk
      go_wp2_with fail
      (try rw [hd2])
      obtain ⟨wo, rfl⟩ : ∃ wo : World, wo = wr := ⟨_, rfl⟩
      go_loopw [5, 6] (fun v5 v6 wr => ∃ j : Nat, j ≤ m.length ∧ v6 = .int .i64 j ∧ v5 = .int .i64 ((cycS C ((m.take j).map mm) (k : Int) : Nat) : Int) ∧ Hid (Below w1.heap.size w1 wr)) (fun _ v6 _ => m.length - (intOf v6).toNat)
      case atStart => exact ⟨0, Nat.zero_le _, rfl, by rw [HZ.out]; rfl, HB.out⟩
      case round =>
        clear HB
        obtain ⟨j, hj, rfl, rfl, HB⟩ := hrel
        rename World => wr
        obtain ⟨⟨a1, a2⟩, hgm⟩ := HX.out wr HB.out
        have hcb := HCB.out j (k : Int)
        by_cases hlj : j < m.length
        · obtain ⟨g, b, off, hg, rfl, hb, c0, c1⟩ := hgm.at_ hlj
          have hgo := HMO.out j g hg
          obtain ⟨e, he⟩ : ∃ e : Nat, g.delay = (e : Int) := ⟨g.delay.toNat, by omega⟩
          obtain ⟨dl, hdl⟩ : ∃ dl, g.delay = dl := ⟨_, rfl⟩
          rw [hdl] at c1
          have hde : dl = (e : Int) := by omega
          have he0 : ¬ dl = 0 := by omega
          obtain ⟨q, hq⟩ : ∃ q, C / e = q := ⟨_, rfl⟩
          have hqb : q ≤ 64 := by rw [← hq]; exact Nat.le_trans (Nat.div_le_self _ _) hC.2
          have hqq : (C : Int).tdiv dl = (q : Int) := by rw [hde, div_nat, hq]
          obtain ⟨cj, hcj⟩ : ∃ cj, cycS C ((m.take j).map mm) (k : Int) = cj := ⟨_, rfl⟩
          have HST : Hid (cycS C ((m.take (j + 1)).map mm) (k : Int) = cj + if g.rate = (k : Int) then q else 0) := by
            show _ = _
            rw [take_snoc hg, cyc_snoc, hcj, ← hq]
            unfold mm
            dsimp only
            rw [he, Int.toNat_natCast]
          rw [hcj] at hcb ⊢
          clear hg hgo hcj hq hde hdl
          obtain ⟨sn, hsn⟩ : ∃ sn, g.rate = sn := ⟨_, rfl⟩
          rw [hsn] at c0 HST
          clear hsn he
          have HLJ := Lib.hid hlj
          by_cases hs : sn = (k : Int)
          · have hsb : (sn == (k : Int)) = true := by rw [beq_iff_eq]; exact hs
            have HST2 : Hid (cycS C ((m.take (j + 1)).map mm) (k : Int) = cj + q) := by have := HST.out; rw [if_pos hs] at this; exact this
            clear hs HST
            go_wp2_with fail
            have e3 : IntKind.i64.wrap (q : Int) = q := IntWalk.i64_in _ (by omega)
            have e4 : IntKind.i64.wrap ((cj : Int) + q) = (cj : Int) + q := IntWalk.i64_in _ (by omega)
            go_quiet (fail)
            clear e3 e4
            have HB5 : Hid (Below w1.heap.size w1 (wr.drewN nq)) := ⟨HB.out.os, HB.out.tape, HB.out.output, HB.out.size, HB.out.block⟩
            clear c0 c1 a1 a2 hsb
            generalize wr.drewN nq = w5 at *
            go_wp2_with fail
            go_roundw
            case rel => exact ⟨j + 1, by have := HLJ.out; omega, by go_num, by rw [HST2.out]; push_cast; rfl, HB5.out⟩
            case measure => simp [intOf]; have := HLJ.out; omega
          · have hsb : (sn == (k : Int)) = false := by rw [beq_eq_false_iff_ne]; exact hs
            have HST2 : Hid (cycS C ((m.take (j + 1)).map mm) (k : Int) = cj) := by have := HST.out; rw [if_neg hs] at this; exact this
            clear HST
            go_wp2_with fail
            go_roundw
            case rel => exact ⟨j + 1, by have := HLJ.out; omega, by go_num, by rw [HST2.out], HB.out⟩
            case measure => simp [intOf]; have := HLJ.out; omega
        · obtain rfl : j = m.length := by omega
          rw [HALL.out] at hcb ⊢
          obtain ⟨cj, hcj⟩ : ∃ cj, cycS C (m.map mm) (k : Int) = cj := ⟨_, rfl⟩
          rw [hcj] at hcb ⊢
          obtain ⟨u, hu⟩ : ∃ u, upC C cj = u := ⟨_, rfl⟩
          have hub : u ≤ 3840 := by rw [← hu]; exact upC_le (by omega) (Nat.le_trans hcb (Nat.le_mul_of_pos_right _ (by omega)))
          have H62 : Hid (Calls Try.prog 62 #[.int .i64 (cj : Int), .int .i64 (C : Int)] wr fun e w' => e = .returned (.int .i64 (u : Int)) ∧ wr = w') := HUP.out cj wr u hcb hu
          have HN1 : Hid (needK C (m.map mm) (k + 1) = nk + u) := by show _ = _; rw [needK_succ, HNK.out, hcj, hu]
          clear hgm hcj hu
          go_wp2_with (go_at_call 62; refine H62.out.mono ?_; rintro e' w6 ⟨rfl, rfl⟩)
          go_roundw
          case rel => exact ⟨k + 1, by omega, by go_num, by rw [HN1.out]; push_cast; rfl, HB.out⟩
          case measure => simp [intOf]; omega
    · obtain rfl : k = 1001 := by omega
      go_wp2_with fail
      go_ret
      exact ⟨by rw [HFIN.out]; rfl, HOLD.out _ HB.out⟩
end Go.Proofs.Ytlbbhlkbhegegaa

/- Maps from ints to ints of the call's own. -/
namespace Go.Proofs.Ytlbbhlkbhegegaa
open Go.RowKit

def keyI (k : Nat) : Lit := .int .i64 (k : Int)
def cntI (D : DataW Unit) : Nat → Nat
  | 0 => 0
  | k + 1 => cntI D k + if Maps.has D (keyI k) = true then 1 else 0
theorem cntI_le (D : DataW Unit) : ∀ k, cntI D k ≤ k
  | 0 => Nat.le_refl _
  | k + 1 => by
    rw [cntI]
    have := cntI_le D k
    split <;> omega
noncomputable abbrev encI : Value → Option (DataW Unit × List MemPlace) := plainElem Try.prog 3
theorem u3 : Try.prog.underlying 3 = some (.int .i64) := by kernel_rfl
theorem u124 : Try.prog.underlying 124 = some (.map 3 3) := by kernel_rfl
theorem z3 (w : World) : (zeroValue 3).run Try.prog w = .ok (.int .i64 0) w := by kernel_rfl
theorem keyed3 : Maps.Keyed Try.prog 3 := Maps.int_keyed u3
theorem int_wf {n : Int} (h0 : -1000000000000 ≤ n) (h : n ≤ 1000000000000) : (Lit.int .i64 n).wf = true := by
  simp [Lit.wf, IntKind.min, IntKind.max, IntKind.bits, IntKind.signed]
  omega
theorem keyI_wf {k : Nat} (h : k < 4096) : (Lit.int .i64 (k : Int)).wf = true := int_wf (by omega) (by omega)
theorem keyOf3 {k : Nat} (h : k < 4096) : keyOf Try.prog 3 (.int .i64 (k : Int)) = some (keyI k) := Maps.keyOf_int_mk u3 (keyI_wf h)
theorem keyI_inj {a b : Nat} (h : a ≠ b) : keyI a ≠ keyI b := fun e => by
  unfold keyI at e
  injection e with _ e
  omega
theorem encI_mk {n : Int} (h0 : -1000000000000 ≤ n) (h : n ≤ 1000000000000) : encI (.int .i64 n) = some (.lit (.int .i64 n), []) := plainElem_int u3 (int_wf h0 h)
theorem encI_any {v : Value} {y : DataW Unit × List MemPlace} (h : encI v = some y) : ∃ n, v = .int .i64 n ∧ y.1 = .lit (.int .i64 n) := by
  obtain ⟨c, hv, hy, _⟩ := plainElem_int_inv u3 h
  exact ⟨c, hv, by rw [hy]⟩
/-- the map in block mb holds f at the keys that p tells -/
def MapI (w : World) (mb : Nat) (f : Nat → Nat) (p : Nat → Prop) : Prop := ∃ D : DataW Unit, w.ownsMap Try.prog 3 encI mb (Maps.size D) D ∧ Maps.size D ≤ cntI D 4096 ∧ (∀ k, k < 4096 → (Maps.has D (keyI k) = true ↔ p k) ∧ (Maps.has D (keyI k) = true → ∀ z, D.atKey (keyI k) z = .lit (.int .i64 (f k : Int)))) ∧ ∀ kl, Maps.has D kl = true → ∃ k, k < 4096 ∧ kl = keyI k
section
variable {w w' : World} {mb : Nat} {f : Nat → Nat} {p : Nat → Prop}
theorem MapI.made (w : World) (f : Nat → Nat) : MapI (w.alloc (.map #[] 0)) w.heap.size f (fun _ => False) :=
  ⟨.map [], World.ownsMap_made w Try.prog 3 encI, Nat.zero_le _, fun k _ => ⟨⟨fun h => (by cases h), fun h => False.elim h⟩, fun h => (by cases h)⟩, fun kl h => by cases h⟩
theorem MapI.lt (h : MapI w mb f p) : mb < w.heap.size := by
  obtain ⟨D, h1, _⟩ := h
  exact h1.lt
theorem MapI.block (h : MapI w mb f p) (hb : w'.heap[mb]? = w.heap[mb]?) : MapI w' mb f p := by
  obtain ⟨D, ⟨es, clock, e1, e2⟩, h2⟩ := h
  exact ⟨D, ⟨es, clock, hb.trans e1, e2⟩, h2⟩
theorem MapI.below {B : Nat} (h : MapI w mb f p) (hb : Below B w w') (hB : mb < B) : MapI w' mb f p := h.block (hb.block mb hB)
theorem MapI.kept {row : Option Nat} (h : MapI w mb f p) (hg : w.grownBy w' row) (hne : some mb ≠ row) : MapI w' mb f p := h.block (hg.block mb h.lt hne)
theorem MapI.congr {f' : Nat → Nat} {p' : Nat → Prop} (h : MapI w mb f p) (hf : ∀ k, p k → f k = f' k) (hp : ∀ k, p k ↔ p' k) : MapI w mb f' p' := by
  obtain ⟨D, h1, h2, h3, h4⟩ := h
  refine ⟨D, h1, h2, fun k hk => ⟨(h3 k hk).1.trans (hp k), fun hh z => ?_⟩, h4⟩
  rw [(h3 k hk).2 hh z, hf k ((h3 k hk).1.1 hh)]
theorem tightI {n : Nat} {D : DataW Unit} (h : w.ownsMap Try.prog 3 encI mb n D) : w.ownsMap Try.prog 3 encI mb (Maps.size D) D := by
  obtain ⟨es, clock, h1, h2, h3, h4⟩ := h
  refine ⟨es, clock, h1, h2, ?_, h4⟩
  rw [h4, Maps.size_eq, length_read]
  exact Nat.le_refl _
set_option maxRecDepth 100000 in
theorem MapI.look (h : MapI w mb f p) {k : Nat} (hk : k < 4096) (hz : ¬ p k → f k = 0) : (Instr.lookup 124 (.map (some mb)) (.int .i64 (k : Int)) false).run Try.prog w = .ok (.int .i64 (f k : Int)) w := by
  obtain ⟨D, h1, h2, h3, h4⟩ := h
  obtain ⟨v, ps, hrun, hv⟩ := h1.lookup keyed3 u124 (z3 w) (encI_mk (by omega) (by omega)) (keyOf3 hk)
  rcases hh : Maps.has D (keyI k)
  · rw [Maps.atKey_of_not_has hh] at hv
    obtain ⟨n, rfl, hn⟩ := encI_any hv
    have hf : f k = 0 := hz fun hp => by rw [(h3 k hk).1.2 hp] at hh; cases hh
    injection hn with hn
    injection hn with _ hn
    rw [hrun, ← hn, hf]
    rfl
  · rw [(h3 k hk).2 hh] at hv
    obtain ⟨n, rfl, hn⟩ := encI_any hv
    injection hn with hn
    injection hn with _ hn
    rw [hrun, ← hn]
end
section
variable {ops : Array Oper} {rest : List Oper} {o : Oper} {a : Act} {Q : Exit → Act → World → Prop}
theorem cntI_put {D : DataW Unit} (hD : Maps.IsMap D) {k : Nat} (d : DataW Unit) : ∀ n, cntI (D.put (keyI k) d) n = cntI D n + if k < n ∧ Maps.has D (keyI k) = false then 1 else 0
  | 0 => by simp [cntI]
  | n + 1 => by
    rw [cntI, cntI, cntI_put hD d n]
    by_cases e : n = k
    · subst e
      rw [Maps.has_put_same hD (by trivial) d, if_pos rfl, if_neg (show ¬ (n < n ∧ _) by omega)]
      rcases hh : Maps.has D (keyI n)
      · rw [if_neg (by simp), if_pos ⟨by omega, rfl⟩]
      · rw [if_pos rfl, if_neg (by simp)]
    · rw [Maps.has_put_other (keyI_inj e) d]
      have : (if k < n + 1 ∧ Maps.has D (keyI k) = false then 1 else 0) = (if k < n ∧ Maps.has D (keyI k) = false then 1 else (0 : Nat)) := by
        by_cases h2 : Maps.has D (keyI k) = false
        · by_cases h1 : k < n
          · rw [if_pos (show k < n + 1 ∧ Maps.has D (keyI k) = false from ⟨by omega, h2⟩), if_pos (show k < n ∧ Maps.has D (keyI k) = false from ⟨h1, h2⟩)]
          · rw [if_neg (show ¬ (k < n + 1 ∧ Maps.has D (keyI k) = false) from fun h => by have := h.1; omega), if_neg (show ¬ (k < n ∧ Maps.has D (keyI k) = false) from fun h => h1 h.1)]
        · rw [if_neg (show ¬ (k < n + 1 ∧ Maps.has D (keyI k) = false) from fun h => h2 h.2), if_neg (show ¬ (k < n ∧ Maps.has D (keyI k) = false) from fun h => h2 h.2)]
      rw [this]
      omega
set_option maxRecDepth 100000 in
theorem put_int (w : World) (hg : o.guard = none) (m x v : Operand) (hop : o.op = Op.mapUpdate 124 m x v) (mb : Nat) (f : Nat → Nat) (p : Nat → Prop) (hm : a.eval m = .map (some mb)) (h : MapI w mb f p) (k : Nat) (hk : k < 4096) (hx : a.eval x = .int .i64 (k : Int))
    {n : Nat} (hv : a.eval v = .int .i64 (n : Int)) (hn : n ≤ 1000000000000)
    (hK : ∀ w', MapI w' mb (fun j => if j = k then n else f j) (fun j => j = k ∨ p j) → w.grownBy w' (some mb) → wpList Try.prog ops Q rest (a.put o.dst undef) w') : wpList Try.prog ops Q (o :: rest) a w := by
  obtain ⟨D, h1, h2, h3, h9⟩ := h
  have hc := cntI_le D 4096
  refine wpList_mapUpdate_own w hg m x v 124 hop 3 3 keyed3 u124 encI mb _ D hm h1 (by unfold maxLen; omega) _ _ (keyI k) hx hv (keyOf3 hk) _ _ (encI_mk (by omega) (by omega)) (fun w' h4 h5 => hK w' ⟨_, tightI h4, ?_, fun j hj => ⟨?_, fun hh z => ?_⟩, fun kl hkl => ?_⟩ h5)
  · have h6 := Maps.size_put (k := keyI k) (h1.tidy keyed3) (.lit (.int .i64 (n : Int)))
    rw [cntI_put h1.isMap, h6]
    rcases hh : Maps.has D (keyI k)
    · rw [if_neg (by simp), if_pos ⟨hk, rfl⟩]; omega
    · rw [if_pos rfl, if_neg (by simp)]; omega
  · by_cases e : j = k
    · subst e
      rw [Maps.has_put_same h1.isMap (by trivial)]
      exact ⟨fun _ => .inl rfl, fun _ => rfl⟩
    · rw [Maps.has_put_other (keyI_inj e), (h3 j hj).1]
      exact ⟨.inr, fun h => h.resolve_left e⟩
  · by_cases e : j = k
    · subst e
      rw [Maps.atKey_put_same h1.isMap (by trivial)]
      (try dsimp only)
      rw [if_pos rfl]
    · rw [Maps.has_put_other (keyI_inj e)] at hh
      rw [Maps.atKey_put_other (keyI_inj e)]
      (try dsimp only)
      rw [if_neg e]
      exact (h3 j hj).2 hh z
  · by_cases e : kl = keyI k
    · exact ⟨k, hk, e⟩
    · rw [Maps.has_put_other e] at hkl
      exact h9 kl hkl
end
end Go.Proofs.Ytlbbhlkbhegegaa

/- Walks: Need, the reference's Need and Schedule. Printed by gen_to4.py. -/
namespace Go.Proofs.Ytlbbhlkbhegegaa
open Go.RowKit

/-- Need's map behind some messages -/
def CycM (w : World) (mb C : Nat) (l : List MMsg) : Prop := MapI w mb (fun s => cycS C l (s : Int)) (fun s => ∃ a ∈ l, a.sender = (s : Int))
theorem cyc_none {C : Nat} {s : Nat} : ∀ {l : List MMsg}, (¬ ∃ a ∈ l, a.sender = (s : Int)) → cycS C l (s : Int) = 0
  | [], _ => rfl
  | a :: l, h => by
    have ih := cyc_none (C := C) (s := s) (l := l) fun ⟨b, hb, e⟩ => h ⟨b, by simp [hb], e⟩
    unfold cycS at ih ⊢
    rw [sumP_cons, ih, if_neg fun e => h ⟨a, by simp, e⟩]
theorem CycM.step {w : World} {mb C s q : Nat} {l : List MMsg} {a : MMsg} (h : MapI w mb (fun j => if j = s then cycS C l (s : Int) + q else cycS C l (j : Int)) (fun j => j = s ∨ ∃ b ∈ l, b.sender = (j : Int))) (ha : a.sender = (s : Int)) (hq : C / a.every = q) : CycM w mb C (l ++ [a]) := by
  refine MapI.congr h (fun k _ => ?_) (fun k => ?_)
  · (try dsimp only)
    rw [cyc_snoc, ha, hq]
    by_cases e : k = s
    · subst e
      rw [if_pos rfl, if_pos rfl]
    · rw [if_neg e, if_neg (by omega), Nat.add_zero]
  · constructor
    · rintro (rfl | ⟨b, hb, e⟩)
      · exact ⟨a, by simp, ha⟩
      · exact ⟨b, by simp [hb], e⟩
    · rintro ⟨b, hb, e⟩
      rcases List.mem_append.1 hb with hb | hb
      · exact .inr ⟨b, hb, e⟩
      · obtain rfl := List.mem_singleton.1 hb
        left
        omega
/-- the sum over the senders that have come -/
noncomputable def needL (C : Nat) (l : List MMsg) (left : Lit → Bool) (k : Nat) : Nat := sumU (fun i => if left (keyI i) = true then 0 else upC C (cycS C l (i : Int))) k
theorem sameKey_ne {a b : Nat} (h : a ≠ b) : (keyI a).sameKey (keyI b) = false := Maps.sameKey_ne (keyI_inj h)
theorem sameKey_eq' (a : Nat) : (keyI a).sameKey (keyI a) = true := WideAt.sameKey_self (by trivial)
theorem needL_step {C : Nat} {l : List MMsg} {left : Lit → Bool} {s : Nat} (hs : left (keyI s) = true) : ∀ {k : Nat}, needL C l (fun z => left z && !z.sameKey (keyI s)) k = needL C l left k + if s < k then upC C (cycS C l (s : Int)) else 0
  | 0 => rfl
  | k + 1 => by
    have ih := needL_step (C := C) (l := l) hs (k := k)
    unfold needL at ih ⊢
    rw [sumU, sumU, ih]
    by_cases e : k = s
    · subst e
      have e1 : (if ((fun z => left z && !z.sameKey (keyI k)) (keyI k)) = true then (0 : Nat) else upC C (cycS C l (k : Int))) = upC C (cycS C l (k : Int)) := if_neg (by simp [sameKey_eq'])
      have e2 : (if left (keyI k) = true then (0 : Nat) else upC C (cycS C l (k : Int))) = 0 := if_pos hs
      have e3 : (if k < k then upC C (cycS C l (k : Int)) else 0) = 0 := if_neg (by omega)
      have e4 : (if k < k + 1 then upC C (cycS C l (k : Int)) else 0) = upC C (cycS C l (k : Int)) := if_pos (by omega)
      rw [e1, e2, e3, e4]
    · have h1 : ((fun z => left z && !z.sameKey (keyI s)) (keyI k)) = left (keyI k) := by simp [sameKey_ne e]
      rw [h1]
      by_cases h2 : s < k
      · have h3 : s < k + 1 := by omega
        simp only [h2, h3, if_true]
        omega
      · have h3 : ¬ s < k + 1 := by omega
        simp only [h2, h3, if_false]
        omega
theorem needL_le {C : Nat} {l : List MMsg} {left : Lit → Bool} {k : Nat} : needL C l left k ≤ needK C l k := sumU_le fun i _ => by split <;> omega
theorem needL_end {C : Nat} {l : List MMsg} {left : Lit → Bool} {k : Nat} (h : ∀ kl, left kl = false) : needL C l left k = needK C l k := sumU_congr fun i _ => by rw [h, if_neg (by simp)]
theorem needL_start {C : Nat} {l : List MMsg} {D : DataW Unit} (hC : 0 < C) (hD : ∀ k, k < 4096 → (Maps.has D (keyI k) = true ↔ ∃ a ∈ l, a.sender = (k : Int))) : needL C l (Maps.has D) 1001 = 0 := by
  unfold needL
  rw [sumU_congr (g := fun _ => 0) fun i hi => ?_, sumU_zero]
  split
  · rfl
  · rename_i h
    rw [cyc_none fun hp => h ((hD i (by omega)).2 hp)]
    unfold upC
    exact Nat.div_eq_of_lt (by omega)
set_option maxRecDepth 100000 in
set_option maxHeartbeats 8000000 in
theorem need_any (S C : Int) (A : Option Addr) (cap : Nat) (m : List MGate) (w : World) (h : GatesA w w.heap.size A m) (hm : m.length ≤ maxLen) {v : Int × Int} (hv2 : (if slottedB S C m = true then (((needC C.toNat (m.map mm) : Nat) : Int), 0) else (0, 43)) = v) :
    Calls Try.prog 47 #[.agg #[.int .i64 S, .int .i64 C, .slice A m.length cap]] w fun e w' => e = .returned (.tuple #[.int .i64 v.1, .int .i64 v.2]) ∧ Below w.heap.size w w' := by
  have hE := SEnv.make (S := S) (C := C) (cap := cap) (t := 54) h
  have HC : Hid (∀ w1, Below (w.heap.size + 1) (w.alloc (.cells #[.int .i64 S, .int .i64 C, .slice A m.length cap] 54)) w1 → Calls Try.prog 72 #[.agg #[.int .i64 S, .int .i64 C, .slice A m.length cap]] w1 fun e w' => e = .returned (.int .i64 (slottedE S C m)) ∧ Below w1.heap.size w1 w') := fun w1 hb => slotted_any S C A cap m w1 ((hE.below hb (by omega)).msgs.more (by have := (hE.below hb (by omega)).size; omega)) hm
  clear h
  rcases hv : slottedB S C m
  · rw [hv, if_neg (by simp)] at hv2
    subst hv2
    rw [slotted_no hv] at HC
    clear hv
    go_enter Try.func47, Try.ntmps47
    go_wp2_with (go_at_call 72; refine (HC.out _ (Below.refl _ _)).mono ?_; rintro e w2 ⟨rfl, hb2⟩)
    go_ret2
    exact ⟨rfl, hE.old.trans (hb2.mono (by simp))⟩
  rw [hv, if_pos rfl] at hv2
  subst hv2
  rw [slotted_yes hv] at HC
  have hpt := slotted_parts hv
  obtain ⟨c, hc⟩ : ∃ c : Nat, C = c := ⟨C.toNat, by omega⟩
  subst hc
  rw [Int.toNat_natCast]
  have hC : 1 ≤ c ∧ c ≤ 64 := by omega
  have hm60 := hpt.2.2.1
  have HMO : Hid (∀ (i : Nat) (g : MGate), m[i]? = some g → (0 ≤ g.rate ∧ g.rate ≤ 1000) ∧ 1 ≤ g.delay ∧ g.delay ≤ 64) := fun i g hg => by have := hpt.2.2.2 i g hg; omega
  clear hv hpt
  have HCB : Hid (∀ k snd, cycS c ((m.take k).map mm) snd ≤ 3840) := fun k snd => by
    have h1 := cyc_bd (C := c) (snd := snd) (l := (m.take k).map mm)
    have h2 : ((m.take k).map mm).length ≤ 60 := by rw [List.length_map, List.length_take]; omega
    have h3 : ((m.take k).map mm).length * c ≤ 60 * 64 := Nat.mul_le_mul h2 hC.2
    omega
  have HALL : Hid ((m.take m.length).map mm = m.map mm) := by show _ = _; rw [List.take_length]
  have HUP : Hid (∀ (n : Nat) (W : World) (u : Nat), n ≤ 3840 → upC c n = u → Calls Try.prog 60 #[.int .i64 (n : Int), .int .i64 (c : Int)] W fun e w' => e = .returned (.int .i64 (u : Int)) ∧ W = w') := fun n W u hn hu => by
    have := up_any (n : Int) (c : Int) W (by omega) (by omega) (by omega) (by omega)
    rw [up_nat (by omega), hu] at this
    exact this
  obtain ⟨w1, hw1⟩ : ∃ w1, w.alloc (.cells #[.int .i64 S, .int .i64 (c : Int), .slice A m.length cap] 54) = w1 := ⟨_, rfl⟩
  rw [hw1] at hE HC
  have HX : Hid (∀ W, Below (w.heap.size + 1) w1 W → (W.cell? ⟨w.heap.size, 0, none⟩ = some (.int .i64 S) ∧ W.cell? ⟨w.heap.size, 1, none⟩ = some (.int .i64 (c : Int)) ∧ W.cell? ⟨w.heap.size, 2, none⟩ = some (.slice A m.length cap)) ∧ GatesA W (w.heap.size + 1) A m) := fun W hW => by
    have k := hE.below hW (by omega)
    exact ⟨⟨k.c0, k.c1, k.c2⟩, k.msgs.more (by omega)⟩
  have HOLD : Hid (∀ W, Below (w.heap.size + 1) w1 W → Below w.heap.size w W) := fun W hW => hE.old.trans (hW.mono (by omega))
  have HSZ : Hid (w.heap.size + 1 ≤ w1.heap.size) := hE.size
  clear hE
  have hmm := @run_makeMap Try.prog
  obtain ⟨⟨a0, a1, a2⟩, _⟩ := HX.out w1 (Below.refl _ _)
  go_enter Try.func47, Try.ntmps47
  go_upto_region 1 with fail
  (try rw [hw1])
  clear hw1
  go_upto_region 5 with (go_at_call 72; refine (HC.out _ (Below.refl _ _)).mono ?_; rintro e w2 ⟨rfl, hb2⟩; have HB2 : Hid (Below (w.heap.size + 1) w1 w2) := hb2.mono HSZ.out; clear hb2)
  clear HC hmm a0 a1 a2
  have HM0 : Hid (CycM (w2.alloc (.map #[] 0)) w2.heap.size c ((m.take 0).map mm)) := by
    refine (MapI.made w2 (fun s => cycS c ((m.take 0).map mm) (s : Int))).congr (fun _ _ => rfl) fun k => ⟨fun h => False.elim h, ?_⟩
    rintro ⟨a, ha, _⟩
    cases ha
  have HZ2 : Hid (w.heap.size + 1 ≤ w2.heap.size) := Nat.le_trans HSZ.out HB2.out.size
  obtain ⟨w3, hw3⟩ : ∃ w3, w2.alloc (.map #[] 0) = w3 := ⟨_, rfl⟩
  have HB3 : Hid (Below (w.heap.size + 1) w1 w3) := by rw [← hw3]; exact HB2.out.alloc HZ2.out _
  rw [hw3] at HM0
  (try rw [hw3])
  have h33 : w3.heap.size = w2.heap.size + 1 := by rw [← hw3]; simp
  obtain ⟨⟨_, a1, a2⟩, _⟩ := HX.out w3 HB3.out
  obtain ⟨mb, hmb⟩ : ∃ mb, w2.heap.size = mb := ⟨_, rfl⟩
  rw [hmb] at HM0 HZ2
  (try rw [hmb])
  clear hw3 h33 hmb a1
  go_wp2_with fail
  clear a2
  go_loopw [20] (fun vi wr => ∃ k : Nat, k ≤ m.length ∧ vi = .int .i64 k ∧ Hid (CycM wr mb c ((m.take k).map mm)) ∧ Hid (Below (w.heap.size + 1) w1 wr)) (fun vi _ => m.length - (intOf vi).toNat)
  case atStart => exact ⟨0, Nat.zero_le _, rfl, HM0, HB3⟩
  case round =>
    clear HM0 HB3
    obtain ⟨k, hk, rfl, HM, HB⟩ := hrel
    rename World => wr
    by_cases hlk : k < m.length
    · have HLK := Lib.hid hlk
      obtain ⟨⟨_, a1, a2⟩, hgm⟩ := HX.out wr HB.out
      obtain ⟨g, b, off, hg, rfl, hb, m0, m1⟩ := hgm.at_ hlk
      have hgo := HMO.out k g hg
      have HCK : Hid (cycS c ((m.take k).map mm) g.rate ≤ 3840) := HCB.out k g.rate
      obtain ⟨sn, hsn⟩ : ∃ sn : Nat, g.rate = (sn : Int) := ⟨g.rate.toNat, by omega⟩
      obtain ⟨dl, hdl⟩ : ∃ dl, g.delay = dl := ⟨_, rfl⟩
      obtain ⟨e, he⟩ : ∃ e : Nat, dl = (e : Int) := ⟨dl.toNat, by omega⟩
      obtain ⟨q, hq⟩ : ∃ q, c / e = q := ⟨_, rfl⟩
      have hqb : q ≤ 64 := by rw [← hq]; exact Nat.le_trans (Nat.div_le_self _ _) hC.2
      have hqq : (c : Int).tdiv dl = (q : Int) := by rw [he, div_nat, hq]
      have hdl0 : ¬ dl = 0 := by omega
      have hsb : sn ≤ 1000 := by omega
      have HST : Hid ((m.take (k + 1)).map mm = (m.take k).map mm ++ [mm g]) := take_snoc hg
      have HGS : Hid ((mm g).sender = (sn : Int) ∧ c / (mm g).every = q) := ⟨hsn, by unfold mm; dsimp only; rw [hdl, he, Int.toNat_natCast]; exact hq⟩
      rw [hsn] at m0 HCK
      rw [hdl] at m1
      have hck := HCK.out
      obtain ⟨cy, hcy⟩ : ∃ cy, cycS c ((m.take k).map mm) (sn : Int) = cy := ⟨_, rfl⟩
      rw [hcy] at hck
      have HCY := Lib.hid hcy
      clear hg hgo hsn hdl he hq hcy HCK hgm
      have hs64 : sn < 4096 := by omega
      obtain ⟨w5, hw5⟩ : ∃ w5, wr.alloc (.cells #[.int .i64 (sn : Int), .int .i64 dl] 98) = w5 := ⟨_, rfl⟩
      have hx5 : w5.heap[wr.heap.size]? = some (.cells #[.int .i64 (sn : Int), .int .i64 dl] 98 (0, 0)) := by rw [← hw5]; exact heap_alloc_new wr _
      have HB5 : Hid (Below (w.heap.size + 1) w1 w5) := by rw [← hw5]; exact HB.out.alloc (Nat.le_trans HSZ.out HB.out.size) _
      have HM5 : Hid (CycM w5 mb c ((m.take k).map mm)) := by rw [← hw5]; exact HM.out.below ((Below.refl _ _).alloc (Nat.le_refl _) _) HM.out.lt
      have q0 := cell_of_row w5 _ 0 _ _ _ hx5
      have q1 := cell_of_row w5 _ 1 _ _ _ hx5
      simp only [List.getElem?_toArray, List.getElem?_cons_succ, List.getElem?_cons_zero] at q0 q1
      obtain ⟨⟨_, b1, _⟩, _⟩ := HX.out w5 HB5.out
      have HLK2 : (Instr.lookup 124 (.map (some mb)) (.int .i64 (sn : Int)) false).run Try.prog w5.drew = .ok (.int .i64 (cy : Int)) w5.drew := by
        have h9 := MapI.look (w := w5.drew) (f := fun s => cycS c ((m.take k).map mm) (s : Int)) (p := fun s => ∃ a ∈ (m.take k).map mm, a.sender = (s : Int)) (MapI.block HM5.out rfl) hs64 cyc_none
        (try dsimp only at h9)
        rw [HCY.out] at h9
        exact h9
      have e3 : IntKind.i64.wrap (q : Int) = q := IntWalk.i64_in _ (by omega)
      have e4 : IntKind.i64.wrap ((cy : Int) + q) = (cy : Int) + q := IntWalk.i64_in _ (by omega)
      clear hx5 HM
      go_upto_region 8 with fail
      (try rw [hw5])
      clear hw5
      refine wp_region_quiet_tail 10 (by kernel_rfl) (by kernel_rfl) ?_
      simp only [List.take_succ_cons, List.take_zero, List.drop_succ_cons, List.drop_zero]
      repeat (go_big_quiet_step (fail))
      refine wpQuiet_nil ?_
      have HB6 : Hid (Below (w.heap.size + 1) w1 w5.drew) := HB5.out.drew
      have HM6 : Hid (CycM w5.drew mb c ((m.take k).map mm)) := MapI.block HM5.out rfl
      clear q0 q1 b1 HLK2 e3 e4
      generalize w5.drew = w6 at *
      go_wp2_with (at_mapUpdate; refine put_int _ rfl _ _ _ rfl mb _ _ rfl HM6.out sn hs64 rfl (n := cy + q) (by push_cast; rfl) (by omega) ?_; intro w7 hm7 hg7; have HM7 := Lib.hid hm7; have HB7 : Hid (Below (w.heap.size + 1) w1 w7) := HB6.out.grown hg7 (Nat.le_trans HSZ.out HB6.out.size) (fun q hq => by injection hq with hq; have := HZ2.out; omega); clear hm7 hg7)
      have HM8 : Hid (CycM w7 mb c ((m.take (k + 1)).map mm)) := by
        show CycM _ _ _ _
        rw [HST.out]
        refine CycM.step (s := sn) (q := q) ?_ HGS.out.1 HGS.out.2
        rw [HCY.out]
        exact HM7.out
      exact ⟨⟨k + 1, by have := HLK.out; omega, by go_num, HM8, HB7⟩, by simp [intOf]; have := HLK.out; omega⟩
    · obtain rfl : k = m.length := by omega
      rw [HALL.out] at HM
      obtain ⟨⟨_, a1, a2⟩, _⟩ := HX.out wr HB.out
      obtain ⟨D, hD, _, hD3, hD4⟩ := HM.out
      have HN0 : Hid (needL c (m.map mm) (Maps.has D) 1001 = 0) := needL_start (by omega) fun k hk => (hD3 k hk).1
      have HDK : Hid (∀ kl, Maps.has D kl = true → ∃ s, s ≤ 1000 ∧ kl = keyI s ∧ ∀ z, D.atKey kl z = .lit (.int .i64 ((cycS c (m.map mm) (s : Int) : Nat) : Int))) := fun kl hkl => by
        obtain ⟨s, hs, rfl⟩ := hD4 kl hkl
        obtain ⟨a, ha, e⟩ := (hD3 s hs).1.1 hkl
        obtain ⟨g, hg, rfl⟩ := List.mem_map.1 ha
        obtain ⟨i, hi⟩ := List.mem_iff_getElem?.1 hg
        have := (HMO.out i g hi).1
        have e' : g.rate = (s : Int) := e
        exact ⟨s, by omega, rfl, (hD3 s hs).2 hkl⟩
      have HDD := Lib.hid hD
      have HBN : Hid (∀ left, needL c (m.map mm) left 1001 ≤ 60060) := fun left => Nat.le_trans needL_le (needK_bd (by omega) (by rw [List.length_map]; exact hm60))
      have HCF : Hid (∀ s : Nat, cycS c (m.map mm) (s : Int) ≤ 3840) := fun s => by have := HCB.out m.length (s : Int); rw [HALL.out] at this; exact this
      have HUB : Hid (∀ n u, n ≤ 3840 → upC c n = u → u ≤ 3840) := fun n u hn hu => by rw [← hu]; exact upC_le (by omega) (Nat.le_trans hn (Nat.le_mul_of_pos_right _ (by omega)))
      have HFIN : Hid (needC c (m.map mm) = needK c (m.map mm) 1001) := rfl
      clear hD hD3 hD4 a2
      go_upto_region 10 with fail
      go_wp2_with (at_range; refine wpList_range_own _ rfl _ 124 rfl 3 3 keyed3 u124 encI mb _ D rfl HDD.out ?_; intro w0 hrg0 hg0 hs0; have HRG0 := Lib.hid hrg0; have HB0 : Hid (Below (w.heap.size + 1) w1 w0) := HB.out.grown hg0 (Nat.le_trans HSZ.out HB.out.size) (fun q hq => by cases hq); clear hrg0 hg0 hs0)
      have HLF : Hid (∀ kl, Maps.has D kl = true → Maps.has D kl = true) := fun _ h => h
      have HCC : Hid (∀ W, Below (w.heap.size + 1) w1 W → W.cell? ⟨w.heap.size, 1, none⟩ = some (.int .i64 (c : Int))) := fun W hW => (HX.out W hW).1.2.1
      have HRZ : Hid (w.heap.size + 1 ≤ wr.heap.size) := Nat.le_trans HSZ.out HB.out.size
      obtain ⟨rb, hrb⟩ : ∃ rb, wr.heap.size = rb := ⟨_, rfl⟩
      rw [hrb] at HRG0 HRZ
      (try rw [hrb])
      clear hrb HX HB HM HDD
      go_frame
      go_loopw [8, 37] (fun v8 _ wr => ∃ (left : Lit → Bool) (cnt : Nat), v8 = .int .i64 ((needL c (m.map mm) left 1001 : Nat) : Int) ∧ Hid (∀ kl, left kl = true → Maps.has D kl = true) ∧ Hid (wr.ranges Try.prog 3 encI mb rb (Maps.size D) D left cnt) ∧ Hid (Below (w.heap.size + 1) w1 wr)) (fun _ _ wr => wr.rangeLeft mb rb)
      case atStart => exact ⟨Maps.has D, Maps.size D, by rw [HN0.out]; rfl, HLF, HRG0, HB0⟩
      case round =>
        clear HLF HRG0 HB0 HN0
        obtain ⟨left, cnt, rfl, HL, HR, HB⟩ := hrel
        rename World => wr
        have hnb := HBN.out left
        go_wp2_with (at_next; refine wpList_next_ranges_ii _ rfl _ rfl 3 3 .i64 .i64 keyed3 u3 u3 mb rb _ _ _ _ rfl HR.out ?_ ?_)
        · intro _ hl0
          have HE : Hid (needL c (m.map mm) left 1001 = needC c (m.map mm)) := by show _ = _; rw [HFIN.out]; exact needL_end hl0
          clear hl0
          go_wp2_with fail
          go_ret2
          exact ⟨by rw [HE.out]; rfl, HOLD.out _ HB.out⟩
        · intro x cv w5 cnt5 _ _ hlx hat hrg5 hlt hg5 hs5 hen
          have HHAS := HL.out _ hlx
          obtain ⟨s, hs, hkl, hd⟩ := HDK.out _ HHAS
          obtain rfl : x = (s : Int) := by
            unfold keyI at hkl
            injection hkl
          have hcv := (hat (.lit (.int .i64 0))).symm.trans (hd _)
          obtain rfl : cv = ((cycS c (m.map mm) (s : Int) : Nat) : Int) := by
            injection hcv with hcv
            injection hcv
          have hcf := HCF.out s
          obtain ⟨u, hu⟩ : ∃ u, upC c (cycS c (m.map mm) (s : Int)) = u := ⟨_, rfl⟩
          have hub := HUB.out _ u hcf hu
          have HST : Hid (needL c (m.map mm) (fun z => left z && !z.sameKey (.int .i64 (s : Int))) 1001 = needL c (m.map mm) left 1001 + u) := by
            show _ = _
            have := needL_step (C := c) (l := m.map mm) (left := left) (s := s) hlx (k := 1001)
            rw [if_pos (by omega), hu] at this
            exact this
          have HB5 : Hid (Below (w.heap.size + 1) w1 w5) := HB.out.grown hg5 (Nat.le_trans HSZ.out HB.out.size) (fun q hq => by injection hq with hq; have := HRZ.out; omega)
          have HRG5 := Lib.hid hrg5
          have HL5 : Hid (∀ kl, (left kl && !kl.sameKey (.int .i64 (s : Int))) = true → Maps.has D kl = true) := fun kl h => HL.out kl (by rw [Bool.and_eq_true] at h; exact h.1)
          have a1 := HCC.out w5 HB5.out
          have H60 := Lib.hid (HUP.out _ w5 u hcf hu)
          have HLT : Hid (w5.rangeLeft mb rb < wr.rangeLeft mb rb) := by show _ < _; rw [hrg5.left_eq, HR.out.left_eq]; exact hlt
          obtain ⟨cy, hcy⟩ : ∃ cy, cycS c (m.map mm) (s : Int) = cy := ⟨_, rfl⟩
          obtain ⟨nl, hnl⟩ : ∃ nl, needL c (m.map mm) left 1001 = nl := ⟨_, rfl⟩
          rw [hcy] at H60 hen
          rw [hnl] at hnb HST
          rw [hcy, hnl]
          clear hlx hat hrg5 hlt hg5 hs5 hkl hd hcv hcf hu hcy hnl HHAS HR HL
          go_wp2_with (go_at_call 60; refine H60.out.mono ?_; rintro e' w6 ⟨rfl, rfl⟩)
          exact ⟨⟨_, cnt5, by rw [HST.out]; push_cast; rfl, HL5, HRG5, HB5⟩, HLT.out⟩
set_option maxRecDepth 100000 in
set_option maxHeartbeats 8000000 in
theorem rNeed_any (S C : Int) (A : Option Addr) (cap : Nat) (m : List MGate) (w : World) (h : GatesA w w.heap.size A m) (hm : m.length ≤ maxLen) {v : Int × Int} (hv2 : (if slottedB S C m = true then (((needC C.toNat (m.map mm) : Nat) : Int), 0) else (0, 43)) = v) :
    Calls Try.prog 48 #[.agg #[.int .i64 S, .int .i64 C, .slice A m.length cap]] w fun e w' => e = .returned (.tuple #[.int .i64 v.1, .int .i64 v.2]) ∧ Below w.heap.size w w' := by
  have hE := SEnv.make (S := S) (C := C) (cap := cap) (t := 54) h
  obtain ⟨w1, hw1⟩ : ∃ w1, w.alloc (.cells #[.int .i64 S, .int .i64 C, .slice A m.length cap] 54) = w1 := ⟨_, rfl⟩
  rw [hw1] at hE
  have HX : Hid (∀ W, Below w1.heap.size w1 W → (W.cell? ⟨w.heap.size, 0, none⟩ = some (.int .i64 S) ∧ W.cell? ⟨w.heap.size, 1, none⟩ = some (.int .i64 C) ∧ W.cell? ⟨w.heap.size, 2, none⟩ = some (.slice A m.length cap)) ∧ GatesA W W.heap.size A m) := fun W hW => by
    have k := hE.below hW hE.size
    exact ⟨⟨k.c0, k.c1, k.c2⟩, k.msgs.more (by have := k.size; omega)⟩
  have HOLD : Hid (∀ W, Below w1.heap.size w1 W → Below w.heap.size w W) := fun W hW => hE.old.trans (hW.mono (Nat.le_of_lt hE.size))
  have HC : Hid (∀ W, Below w1.heap.size w1 W → Calls Try.prog 74 #[.agg #[.int .i64 S, .int .i64 C, .slice A m.length cap]] W fun e w' => e = .returned (.int .i64 (slottedE S C m)) ∧ Below W.heap.size W w') := fun W hW => rslotted_any S C A cap m W (HX.out W hW).2 hm
  obtain ⟨⟨a0, a1, a2⟩, _⟩ := HX.out w1 (Below.refl _ _)
  clear hE h
  rcases hv : slottedB S C m
  · rw [hv, if_neg (by simp)] at hv2
    subst hv2
    rw [slotted_no hv] at HC
    clear hv
    go_enter Try.func48, Try.ntmps48
    go_upto_region 1 with fail
    (try rw [hw1])
    clear hw1
    go_wp2_with (go_at_call 74; refine (HC.out _ (Below.refl _ _)).mono ?_; rintro e w2 ⟨rfl, hb2⟩)
    go_ret2
    exact ⟨rfl, HOLD.out _ hb2⟩
  rw [hv, if_pos rfl] at hv2
  subst hv2
  rw [slotted_yes hv] at HC
  have hpt := slotted_parts hv
  obtain ⟨c, hc⟩ : ∃ c : Nat, C = c := ⟨C.toNat, by omega⟩
  subst hc
  rw [Int.toNat_natCast]
  have HN : Hid (∀ W, Below w1.heap.size w1 W → Calls Try.prog 92 #[.agg #[.int .i64 S, .int .i64 (c : Int), .slice A m.length cap]] W fun e w' => e = .returned (.int .i64 ((needC c (m.map mm) : Nat) : Int)) ∧ Below W.heap.size W w') := fun W hW => rneed_any S c A cap m W (HX.out W hW).2 hpt.2.2.1 (by omega) (fun i g hg => by have := hpt.2.2.2 i g hg; omega)
  clear hv hpt
  go_enter Try.func48, Try.ntmps48
  go_upto_region 1 with fail
  (try rw [hw1])
  clear hw1
  go_wp2_with (first
    | (go_at_call 74; refine (HC.out _ (Below.refl _ _)).mono ?_; rintro e w2 ⟨rfl, hb2⟩; have HB2 := Lib.hid hb2; obtain ⟨⟨a0, a1, a2⟩, _⟩ := HX.out w2 HB2.out; clear hb2)
    | (go_at_call 92; refine (HN.out _ HB2.out).mono ?_; rintro e w3 ⟨rfl, hb3⟩; have HB3 := Lib.hid hb3; clear hb3))
  go_ret2
  exact ⟨rfl, HOLD.out _ (HB2.out.trans (HB3.out.mono HB2.out.size))⟩
/-- what the reference's Schedule leaves -/
def RSchedP (S C : Int) (m : List MGate) (w : World) (e : Ending) (w' : World) : Prop :=
  Below w.heap.size w w' ∧ ((slottedB S C m = false ∧ e = .returned (.tuple #[.slice none 0 0, .int .i64 43])) ∨
    (slottedB S C m = true ∧ ¬ Can S.toNat [] (m.map mm) ∧ e = .returned (.tuple #[.slice none 0 0, .int .i64 44])) ∨
    (slottedB S C m = true ∧ ∃ xs A c, FirstR S.toNat [] (m.map mm) xs ∧ xs.length ≤ c ∧ GatesA w' w'.heap.size A (xs.map pg) ∧ e = .returned (.tuple #[.slice A xs.length c, .int .i64 0])))
theorem placedK_nil (m : List MGate) : placedK m [] = [] := by unfold placedK; exact List.zip_nil_right
/-- messages can be placed just if there are slots enough -/
theorem can_slotted {S C : Int} {m : List MGate} (h : slottedB S C m = true) : Can S.toNat [] (m.map mm) ↔ needC C.toNat (m.map mm) ≤ S.toNat := by
  have hC := slotted_cyc h
  have hMS := slotted_msgs h
  obtain ⟨L, hp, hs⟩ : ∃ L : List MGate, L.Perm m ∧ L.Pairwise LeM := by
    refine ⟨m.mergeSort fun a b => decide (a.delay ≤ b.delay), List.mergeSort_perm _ _, ?_⟩
    have := List.pairwise_mergeSort (le := fun a b : MGate => decide (a.delay ≤ b.delay)) (fun a b c h1 h2 => by simp only [decide_eq_true_eq] at *; omega) (fun a b => by simp only [Bool.or_eq_true, decide_eq_true_eq]; omega) m
    exact this.imp fun h => of_decide_eq_true h
  have hL : ∀ a ∈ L, MsgOk C.toNat (mm a) ∧ 0 ≤ a.delay := fun a ha => hMS a (hp.mem_iff.1 ha)
  rw [← can_perm hp, ← need_perm (C := C.toNat) (hp.map mm)]
  have h1 := can_need (S := S.toNat) (C := C.toNat) hC.pos (l := L.map mm) (P := []) (gi_nil _ _) (by
    rw [List.pairwise_map]
    refine hs.imp_of_mem fun {a b} ha hb hab => two_dvd (hL a ha).1.two (hL b hb).1.two ?_
    unfold LeM at hab
    show a.delay.toNat ≤ b.delay.toNat
    omega) (fun a ha => by
    obtain ⟨g, hg, rfl⟩ := List.mem_map.1 ha
    have := (hL g hg).1
    exact ⟨this.pos, this.dvd hC, this.snd⟩) (fun p hp => by cases hp)
  exact h1
set_option maxRecDepth 100000 in
set_option maxHeartbeats 8000000 in
theorem rschedule_any (S C : Int) (A : Option Addr) (cap : Nat) (m : List MGate) (w : World) (h : GatesA w w.heap.size A m) (hm : m.length ≤ maxLen) :
    Calls Try.prog 51 #[.agg #[.int .i64 S, .int .i64 C, .slice A m.length cap]] w (RSchedP S C m w) := by
  have hE := SEnv.make (S := S) (C := C) (cap := cap) (t := 54) h
  obtain ⟨w1, hw1⟩ : ∃ w1, w.alloc (.cells #[.int .i64 S, .int .i64 C, .slice A m.length cap] 54) = w1 := ⟨_, rfl⟩
  rw [hw1] at hE
  have HX : Hid (∀ W, Below w1.heap.size w1 W → (W.cell? ⟨w.heap.size, 0, none⟩ = some (.int .i64 S) ∧ W.cell? ⟨w.heap.size, 1, none⟩ = some (.int .i64 C) ∧ W.cell? ⟨w.heap.size, 2, none⟩ = some (.slice A m.length cap)) ∧ GatesA W W.heap.size A m) := fun W hW => by
    have k := hE.below hW hE.size
    exact ⟨⟨k.c0, k.c1, k.c2⟩, k.msgs.more (by have := k.size; omega)⟩
  have HOLD : Hid (∀ W, Below w1.heap.size w1 W → Below w.heap.size w W) := fun W hW => hE.old.trans (hW.mono (Nat.le_of_lt hE.size))
  have HC : Hid (∀ W, Below w1.heap.size w1 W → Calls Try.prog 74 #[.agg #[.int .i64 S, .int .i64 C, .slice A m.length cap]] W fun e w' => e = .returned (.int .i64 (slottedE S C m)) ∧ Below W.heap.size W w') := fun W hW => rslotted_any S C A cap m W (HX.out W hW).2 hm
  obtain ⟨⟨a0, a1, a2⟩, _⟩ := HX.out w1 (Below.refl _ _)
  have HWS : Hid (w.heap.size < w1.heap.size) := hE.size
  clear hE h
  rcases hv : slottedB S C m
  · have HV := Lib.hid hv
    rw [slotted_no hv] at HC
    clear hv
    go_enter Try.func51, Try.ntmps51
    go_upto_region 1 with fail
    (try rw [hw1])
    clear hw1
    go_wp2_with (go_at_call 74; refine (HC.out _ (Below.refl _ _)).mono ?_; rintro e w2 ⟨rfl, hb2⟩)
    go_ret2
    exact ⟨HOLD.out _ hb2, .inl ⟨HV.out, rfl⟩⟩
  rw [slotted_yes hv] at HC
  have HV := Lib.hid hv
  have hpt := slotted_parts hv
  have HCAN := Lib.hid (can_slotted hv)
  obtain ⟨s, hs⟩ : ∃ s : Nat, S = s := ⟨S.toNat, by omega⟩
  subst hs
  obtain ⟨c, hc⟩ : ∃ c : Nat, C = c := ⟨C.toNat, by omega⟩
  subst hc
  rw [Int.toNat_natCast, Int.toNat_natCast] at HCAN
  have HN : Hid (∀ W, Below w1.heap.size w1 W → Calls Try.prog 92 #[.agg #[.int .i64 (s : Int), .int .i64 (c : Int), .slice A m.length cap]] W fun e w' => e = .returned (.int .i64 ((needC c (m.map mm) : Nat) : Int)) ∧ Below W.heap.size W w') := fun W hW => rneed_any (s : Int) c A cap m W (HX.out W hW).2 hpt.2.2.1 (by omega) (fun i g hg => by have := hpt.2.2.2 i g hg; omega)
  have HSR : Hid (∀ W, Below w1.heap.size w1 W → Calls Try.prog 94 #[.agg #[.int .i64 (s : Int), .int .i64 (c : Int), .slice A m.length cap], .slice none 0 0] W (SearchP s m [] W)) := fun W hW => search_any s c A cap m (by omega) hpt.2.2.1 (fun i g hg => by have := hpt.2.2.2 i g hg; omega) m.length [] none 0 W (by simp) (HX.out W hW).2 (fun hn => by simp at hn) (Nat.zero_le _) (fun x hx => by cases hx)
  clear hv hpt
  have m0 : ∀ s' : BW w1.heap.size w1, s'.1.cell? ⟨w.heap.size, 0, none⟩ = some (.int .i64 (s : Int)) := BW.cell (B := w1.heap.size) (W := w1) HWS.out a0
  obtain ⟨nd, hnd⟩ : ∃ nd, needC c (m.map mm) = nd := ⟨_, rfl⟩
  rw [hnd] at HCAN HN
  clear hnd
  go_enter Try.func51, Try.ntmps51
  go_upto_region 1 with fail
  (try rw [hw1])
  clear hw1
  go_upto_region 4 with (go_at_call 74; refine (HC.out _ (Below.refl _ _)).mono ?_; rintro e w2 ⟨rfl, hb2⟩; have HB2 := Lib.hid hb2; clear hb2)
  clear m0
  have HS12 : Hid (w1.heap.size ≤ w2.heap.size) := HB2.out.size
  have hw2 : w.heap.size < w2.heap.size := by have := HWS.out; have := HS12.out; omega
  obtain ⟨⟨b0, b1, b2⟩, _⟩ := HX.out w2 HB2.out
  have m0 := BW.cell (B := w2.heap.size) (W := w2) hw2 b0
  have m1 := BW.cell (B := w2.heap.size) (W := w2) hw2 b1
  have m2 := BW.cell (B := w2.heap.size) (W := w2) hw2 b2
  have HNB : Hid (∀ s' : BW w2.heap.size w2, Calls Try.prog 92 #[.agg #[.int .i64 (s : Int), .int .i64 (c : Int), .slice A m.length cap]] s'.1 fun e w' => e = .returned (.int .i64 (nd : Int)) ∧ Below s'.1.heap.size s'.1 w') := fun s' => HN.out s'.1 (HB2.out.trans (s'.2.mono HS12.out))
  clear a0 a1 a2 b0 b1 b2
  refine wp_region_below w2.heap.size w2 (Below.refl _ _) (by kernel_rfl) (by kernel_rfl) ?_
  repeat (go_big_quiet_step ((go_at_call 92; exact quiet_below (Nat.le_refl _) (HNB.out _))))
  refine wpQuiet_nil ?_
  intro s'
  have HB3 : Hid (Below w1.heap.size w1 s'.1) := HB2.out.trans (s'.2.mono HS12.out)
  generalize s'.1 = w3 at *
  obtain ⟨⟨b0, b1, b2⟩, _⟩ := HX.out w3 HB3.out
  clear m0 m1 m2 HNB
  by_cases hns : s < nd
  · have HNO : Hid (¬ Can s [] (m.map mm)) := fun hc => by have := HCAN.out.1 hc; omega
    go_wp2_with fail
    go_ret2
    exact ⟨HOLD.out _ HB3.out, .inr (.inl ⟨HV.out, HNO.out, rfl⟩)⟩
  · have HYES : Hid (Can s [] (m.map mm)) := HCAN.out.2 (by omega)
    have HS3 := Lib.hid (HSR.out w3 HB3.out)
    go_wp2_with (go_at_call 94; refine HS3.out.mono ?_; rintro e' w4 ⟨hb4, (⟨ys, A4, c4, hf, rfl, hc4, hg4⟩ | ⟨hnc, rfl⟩)⟩)
    · rw [placedK_nil] at hf
      have HF := Lib.hid hf
      have HC4 := Lib.hid hc4
      have HG4 := Lib.hid hg4
      have HB4 : Hid (Below w1.heap.size w1 w4) := HB3.out.trans (hb4.mono HB3.out.size)
      clear hf hc4 hg4 hb4
      go_wp2_with fail
      go_ret2
      exact ⟨HOLD.out _ HB4.out, .inr (.inr ⟨HV.out, ys, A4, c4, HF.out, HC4.out, HG4.out, rfl⟩)⟩
    · rw [placedK_nil] at hnc
      exact absurd HYES.out hnc
end Go.Proofs.Ytlbbhlkbhegegaa

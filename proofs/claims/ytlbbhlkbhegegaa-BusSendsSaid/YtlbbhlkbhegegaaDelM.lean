/- The arrays of Delays in memory. -/
import Derived.Test.YtlbbhlkbhegegaaDel
import Derived.Test.YtlbbhlkbhegegaaOwn
namespace Go.Proofs.Ytlbbhlkbhegegaa
open Go.RowKit

theorem NetEnv.alloc {w0 wr : World} {A1 A2 : Option Addr} {bx c1 c2 : Nat} {n : MNet} (h : NetEnv w0 bx A1 c1 A2 c2 n wr) (o : Obj) : NetEnv w0 bx A1 c1 A2 c2 n (wr.alloc o) :=
  h.below (B := wr.heap.size) ((Below.refl _ _).alloc (Nat.le_refl _) o) h.size
theorem NetEnv.set {w0 wr : World} {A1 A2 : Option Addr} {bx c1 c2 : Nat} {n : MNet} (h : NetEnv w0 bx A1 c1 A2 c2 n wr) {p : Addr} (hp : bx < p.block) (u : Value) : NetEnv w0 bx A1 c1 A2 c2 n (wr.setCell p u) :=
  h.below (B := p.block) ((Below.refl _ _).setCell (Nat.le_refl _) u) hp

/-- the state of Delays: its net, the waits (block gw), the delays (block gd), the bursts (at Ab), the gates in order (at Al) -/
structure DS (w0 : World) (bx : Nat) (A1 : Option Addr) (c1 : Nat) (A2 : Option Addr) (c2 : Nat) (n : MNet) (gw gd : Nat) (Ab Al : Option Addr) (l : List Int) (B W D : Nat → Int) (wr : World) : Prop where
  env : NetEnv w0 bx A1 c1 A2 c2 n wr
  hgw : bx < gw
  hgd : gw < gd
  ow : OwnF wr gw 3 n.gates.length (fun j => .int .i64 (W j))
  od : OwnF wr gd 3 n.flows.length (fun j => .int .i64 (D j))
  ob : 0 < n.flows.length → ∃ g, Ab = some ⟨g, 0, none⟩ ∧ gd < g ∧ OwnF wr g 3 n.flows.length (fun j => .int .i64 (B j))
  il : IntsA wr gw Al l
section
variable {w0 wr : World} {bx : Nat} {A1 : Option Addr} {c1 : Nat} {A2 : Option Addr} {c2 : Nat} {n : MNet} {gw gd : Nat} {Ab Al : Option Addr} {l : List Int} {B W D : Nat → Int}
theorem DS.below {wr' : World} (h : DS w0 bx A1 c1 A2 c2 n gw gd Ab Al l B W D wr) (hb : Below wr.heap.size wr wr') : DS w0 bx A1 c1 A2 c2 n gw gd Ab Al l B W D wr' := by
  have h1 := h.ow.lt
  exact ⟨h.env.below hb h.env.size, h.hgw, h.hgd, h.ow.below hb h.ow.lt, h.od.below hb h.od.lt, fun h0 => by
    obtain ⟨g, e, hg, ho⟩ := h.ob h0
    exact ⟨g, e, hg, ho.below hb ho.lt⟩, h.il.below (hb.mono (B' := gw) (by omega)) (Nat.le_refl _)⟩
theorem DS.alloc (h : DS w0 bx A1 c1 A2 c2 n gw gd Ab Al l B W D wr) (o : Obj) : DS w0 bx A1 c1 A2 c2 n gw gd Ab Al l B W D (wr.alloc o) :=
  h.below ((Below.refl _ _).alloc (Nat.le_refl _) o)
theorem DS.drewN (h : DS w0 bx A1 c1 A2 c2 n gw gd Ab Al l B W D wr) (k : Nat) : DS w0 bx A1 c1 A2 c2 n gw gd Ab Al l B W D (wr.drewN k) :=
  ⟨h.env.drewN k, h.hgw, h.hgd, h.ow, h.od, h.ob, h.il⟩
theorem DS.drew (h : DS w0 bx A1 c1 A2 c2 n gw gd Ab Al l B W D wr) : DS w0 bx A1 c1 A2 c2 n gw gd Ab Al l B W D wr.drew :=
  ⟨h.env.drewN 1, h.hgw, h.hgd, h.ow, h.od, h.ob, h.il⟩
theorem il_set {p : Addr} {u : Value} (h : IntsA wr gw Al l) (hp : gw ≤ p.block) : IntsA (wr.setCell p u) gw Al l := h.below ((Below.refl _ _).setCell hp u) (Nat.le_refl _)
theorem DS.setW (h : DS w0 bx A1 c1 A2 c2 n gw gd Ab Al l B W D wr) (j : Nat) (x : Int) {W' : Nat → Int} (hW : ∀ i, W' i = if i = j then x else W i) : DS w0 bx A1 c1 A2 c2 n gw gd Ab Al l B W' D (wr.setCell ⟨gw, j, none⟩ (.int .i64 x)) := by
  have h1 := h.hgw
  have h2 := h.hgd
  refine ⟨h.env.set h1 _, h1, h2, (h.ow.set j _).congr fun i _ => ?_, h.od.far (by show gd ≠ gw; omega) _, fun h0 => ?_, il_set h.il (Nat.le_refl _)⟩
  · rw [hW]; split <;> rfl
  · obtain ⟨g, e, hg, ho⟩ := h.ob h0
    exact ⟨g, e, hg, ho.far (by show g ≠ gw; omega) _⟩
theorem DS.setD (h : DS w0 bx A1 c1 A2 c2 n gw gd Ab Al l B W D wr) (j : Nat) (x : Int) {D' : Nat → Int} (hD : ∀ i, D' i = if i = j then x else D i) : DS w0 bx A1 c1 A2 c2 n gw gd Ab Al l B W D' (wr.setCell ⟨gd, j, none⟩ (.int .i64 x)) := by
  have h1 := h.hgw
  have h2 := h.hgd
  refine ⟨h.env.set (by show bx < gd; omega) _, h1, h2, h.ow.far (by show gw ≠ gd; omega) _, (h.od.set j _).congr fun i _ => ?_, fun h0 => ?_, il_set h.il (by show gw ≤ gd; omega)⟩
  · rw [hD]; split <;> rfl
  · obtain ⟨g, e, hg, ho⟩ := h.ob h0
    exact ⟨g, e, hg, ho.far (by show g ≠ gd; omega) _⟩
theorem DS.setB {gb : Nat} (h : DS w0 bx A1 c1 A2 c2 n gw gd (some ⟨gb, 0, none⟩) Al l B W D wr) (hF : 0 < n.flows.length) (j : Nat) (x : Int) {B' : Nat → Int} (hB : ∀ i, B' i = if i = j then x else B i) : DS w0 bx A1 c1 A2 c2 n gw gd (some ⟨gb, 0, none⟩) Al l B' W D (wr.setCell ⟨gb, j, none⟩ (.int .i64 x)) := by
  have h1 := h.hgw
  have h2 := h.hgd
  obtain ⟨g, e, hg, ho⟩ := h.ob hF
  injection e with e
  injection e with e
  subst e
  refine ⟨h.env.set (by show bx < gb; omega) _, h1, h2, h.ow.far (by show gw ≠ gb; omega) _, h.od.far (by show gd ≠ gb; omega) _, fun _ => ⟨gb, rfl, hg, (ho.set j _).congr fun i _ => ?_⟩, il_set h.il (by show gw ≤ gb; omega)⟩
  rw [hB]; split <;> rfl
theorem DS.congr (h : DS w0 bx A1 c1 A2 c2 n gw gd Ab Al l B W D wr) {B' D' : Nat → Int} (hB : ∀ j, j < n.flows.length → B j = B' j) (hD : ∀ j, j < n.flows.length → D j = D' j) : DS w0 bx A1 c1 A2 c2 n gw gd Ab Al l B' W D' wr :=
  ⟨h.env, h.hgw, h.hgd, h.ow, h.od.congr fun j hj => by rw [hD j hj], fun h0 => by
    obtain ⟨g, e, hg, ho⟩ := h.ob h0
    exact ⟨g, e, hg, ho.congr fun j hj => by rw [hB j hj]⟩, h.il⟩
end
/-- what Delays hands back -/
def DelPost (n : MNet) (res : List Int → Option ((Nat → Int) × (Nat → Int))) (w : World) (e : Ending) (w' : World) : Prop :=
  Below w.heap.size w w' ∧
  ((checkS n ≠ 0 ∧ e = .returned (.tuple #[.slice none 0 0, .slice none 0 0, .int .i64 (checkS n)])) ∨
   (checkS n = 0 ∧ ∃ l, orderS n = some l ∧
     ((res l = none ∧ e = .returned (.tuple #[.slice none 0 0, .slice none 0 0, .int .i64 41])) ∨
      ∃ W D gw gd, res l = some (W, D) ∧ e = .returned (.tuple #[.slice (some ⟨gw, 0, none⟩) n.gates.length n.gates.length, .slice (some ⟨gd, 0, none⟩) n.flows.length n.flows.length, .int .i64 0]) ∧
        w.heap.size ≤ gw ∧ w.heap.size ≤ gd ∧ OwnF w' gw 3 n.gates.length (fun j => .int .i64 (W j)) ∧ OwnF w' gd 3 n.flows.length (fun j => .int .i64 (D j)))))
end Go.Proofs.Ytlbbhlkbhegegaa

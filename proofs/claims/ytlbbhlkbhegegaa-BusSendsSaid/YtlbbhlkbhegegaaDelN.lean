/- The arrays of the reference's Delays in memory. -/
import Derived.Test.YtlbbhlkbhegegaaDel3
namespace Go.Proofs.Ytlbbhlkbhegegaa
open Go.RowKit
/-- as DS, the gates in order made last (from block gx on) -/
structure DSR (w0 : World) (bx : Nat) (A1 : Option Addr) (c1 : Nat) (A2 : Option Addr) (c2 : Nat) (n : MNet) (gw gd gx : Nat) (Ab Al : Option Addr) (l : List Int) (B W D : Nat → Int) (wr : World) : Prop where
  env : NetEnv w0 bx A1 c1 A2 c2 n wr
  hgw : bx < gw
  hgd : gw < gd
  hgx : gd < gx
  ow : OwnF wr gw 3 n.gates.length (fun j => .int .i64 (W j))
  od : OwnF wr gd 3 n.flows.length (fun j => .int .i64 (D j))
  ob : 0 < n.flows.length → ∃ g, Ab = some ⟨g, 0, none⟩ ∧ gd < g ∧ g < gx ∧ OwnF wr g 3 n.flows.length (fun j => .int .i64 (B j))
  ol : 0 < l.length → ∃ g, Al = some ⟨g, 0, none⟩ ∧ gx ≤ g ∧ OwnF wr g 3 l.length (fun j => .int .i64 (l.getD j 0))
section
variable {w0 wr : World} {bx : Nat} {A1 : Option Addr} {c1 : Nat} {A2 : Option Addr} {c2 : Nat} {n : MNet} {gw gd gx : Nat} {Ab Al : Option Addr} {l : List Int} {B W D : Nat → Int}
theorem DSR.drew (h : DSR w0 bx A1 c1 A2 c2 n gw gd gx Ab Al l B W D wr) : DSR w0 bx A1 c1 A2 c2 n gw gd gx Ab Al l B W D wr.drew :=
  ⟨h.env.drewN 1, h.hgw, h.hgd, h.hgx, h.ow, h.od, h.ob, h.ol⟩
theorem DSR.setW (h : DSR w0 bx A1 c1 A2 c2 n gw gd gx Ab Al l B W D wr) (j : Nat) (x : Int) {W' : Nat → Int} (hW : ∀ i, W' i = if i = j then x else W i) : DSR w0 bx A1 c1 A2 c2 n gw gd gx Ab Al l B W' D (wr.setCell ⟨gw, j, none⟩ (.int .i64 x)) := by
  have h1 := h.hgw
  have h2 := h.hgd
  have h3 := h.hgx
  refine ⟨h.env.set h1 _, h1, h2, h3, (h.ow.set j _).congr fun i _ => ?_, h.od.far (by show gd ≠ gw; omega) _, fun h0 => ?_, fun h0 => ?_⟩
  · rw [hW]; split <;> rfl
  · obtain ⟨g, e, hg, hx, ho⟩ := h.ob h0
    exact ⟨g, e, hg, hx, ho.far (by show g ≠ gw; omega) _⟩
  · obtain ⟨g, e, hg, ho⟩ := h.ol h0
    exact ⟨g, e, hg, ho.far (by show g ≠ gw; omega) _⟩
theorem DSR.setD (h : DSR w0 bx A1 c1 A2 c2 n gw gd gx Ab Al l B W D wr) (j : Nat) (x : Int) {D' : Nat → Int} (hD : ∀ i, D' i = if i = j then x else D i) : DSR w0 bx A1 c1 A2 c2 n gw gd gx Ab Al l B W D' (wr.setCell ⟨gd, j, none⟩ (.int .i64 x)) := by
  have h1 := h.hgw
  have h2 := h.hgd
  have h3 := h.hgx
  refine ⟨h.env.set (by show bx < gd; omega) _, h1, h2, h3, h.ow.far (by show gw ≠ gd; omega) _, (h.od.set j _).congr fun i _ => ?_, fun h0 => ?_, fun h0 => ?_⟩
  · rw [hD]; split <;> rfl
  · obtain ⟨g, e, hg, hx, ho⟩ := h.ob h0
    exact ⟨g, e, hg, hx, ho.far (by show g ≠ gd; omega) _⟩
  · obtain ⟨g, e, hg, ho⟩ := h.ol h0
    exact ⟨g, e, hg, ho.far (by show g ≠ gd; omega) _⟩
theorem DSR.setB {gb : Nat} (h : DSR w0 bx A1 c1 A2 c2 n gw gd gx (some ⟨gb, 0, none⟩) Al l B W D wr) (hF : 0 < n.flows.length) (j : Nat) (x : Int) {B' : Nat → Int} (hB : ∀ i, B' i = if i = j then x else B i) : DSR w0 bx A1 c1 A2 c2 n gw gd gx (some ⟨gb, 0, none⟩) Al l B' W D (wr.setCell ⟨gb, j, none⟩ (.int .i64 x)) := by
  have h1 := h.hgw
  have h2 := h.hgd
  have h3 := h.hgx
  obtain ⟨g, e, hg, hx, ho⟩ := h.ob hF
  injection e with e
  injection e with e
  subst e
  refine ⟨h.env.set (by show bx < gb; omega) _, h1, h2, h3, h.ow.far (by show gw ≠ gb; omega) _, h.od.far (by show gd ≠ gb; omega) _, fun _ => ⟨gb, rfl, hg, hx, (ho.set j _).congr fun i _ => ?_⟩, fun h0 => ?_⟩
  · rw [hB]; split <;> rfl
  · obtain ⟨g, e, hg, ho⟩ := h.ol h0
    exact ⟨g, e, hg, ho.far (by show g ≠ gb; omega) _⟩
theorem DSR.congr (h : DSR w0 bx A1 c1 A2 c2 n gw gd gx Ab Al l B W D wr) {B' D' : Nat → Int} (hB : ∀ j, j < n.flows.length → B j = B' j) (hD : ∀ j, j < n.flows.length → D j = D' j) : DSR w0 bx A1 c1 A2 c2 n gw gd gx Ab Al l B' W D' wr :=
  ⟨h.env, h.hgw, h.hgd, h.hgx, h.ow, h.od.congr fun j hj => by rw [hD j hj], fun h0 => by
    obtain ⟨g, e, hg, hx, ho⟩ := h.ob h0
    exact ⟨g, e, hg, hx, ho.congr fun j hj => by rw [hB j hj]⟩, h.ol⟩
end
end Go.Proofs.Ytlbbhlkbhegegaa

/- What law13's walks share: rows of the law's own beside its sessions. -/
import Derived.Test.YtdbgplnjppaimaaGreatLaw13s
open Go Go.Proofs Go.RowKit Go.Maps Go.Sort Go.Shelf
namespace Go.Proofs.YtdbgplnjppaimaaGreat
/-- A row of the law's own beside its sessions. -/
def Dj (v : Value) (p mb tp tm : Nat) : Prop := ∀ g, v.ownBlock = some g → g ≠ p ∧ g ≠ mb ∧ g ≠ tp ∧ g ≠ tm
def RowS (w wr : World) (v : Value) (K : List Int) (p mb tp tm : Nat) : Prop := RowP 2 w.heap.size wr v K ∧ Dj v p mb tp tm
theorem RowS.keepN {w wr wc : World} {v : Value} {K : List Int} {p mb tp tm : Nat} (h : RowS w wr v K p mb tp tm) (hk : Keep NoF wr wc) : RowS w wc v K p mb tp tm := ⟨h.1.keep hk (fun _ _ f => f), h.2⟩
theorem RowS.keep {w wr wc : World} {v : Value} {K : List Int} {p mb tp tm : Nat} (h : RowS w wr v K p mb tp tm) (hk : Keep (SF p mb tm) wr wc) : RowS w wc v K p mb tp tm :=
  ⟨h.1.keep hk (fun g hg f => by have := h.2 g hg; rcases f with f | f | f; exact this.1 f; exact this.2.1 f; exact this.2.2.2 f), h.2⟩
theorem RowS.new {w wr wc : World} {v : Value} {K : List Int} {p mb tp tm nb : Nat} {br last : Int} {K0 : List Int} {td ag : Int → Int} (hr : RowP 2 wr.heap.size wc v K) (hs : SSt w wr p mb tp tm nb br last K0 td ag) : RowS w wc v K p mb tp tm :=
  ⟨hr.less hs.kp.size, fun g hg => by have := hr.lo g hg; have := hs.1.lt; omega⟩
end Go.Proofs.YtdbgplnjppaimaaGreat

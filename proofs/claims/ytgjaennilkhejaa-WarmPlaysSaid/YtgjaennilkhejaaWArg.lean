/- A word that came in as an argument. No condition. -/
import Derived.Test.YtgjaennilkhejaaRow
import Derived.Test.YtgjaennilkhejaaWMap
import Derived.Lib.SmallJoins
import Derived.Carry
namespace Go.Proofs.Ytgjaennilkhejaa
open Go.RowKit Go.ChangeShapes Go.WideShapes Go.Joins
/-- The value is this word. -/
def WordArg (_ : World) (v : Value) (k : W4) : Prop := v = .agg #[.int .u64 k.a, .int .u64 k.b, .int .u64 k.c, .int .u64 k.d] ∧ k.wf
theorem open_wordarg {H : Type} {enc : TypeId × Value → H} {w : World} {base b0 : Nat} {spare : Nat → Bool} {held : Bool} {r : Reach} {v : Value} {d : DataW H} {p : List MemPlace} (hv : Value.okWide Try.prog w r b0 24 v)
    (h : DataW.Trod enc Try.prog w base spare held 24 v d p) : ∃ k, WordArg w v k := by
  obtain ⟨v0, v1, v2, v3, y0, y1, y2, y3, n, rfl, rfl, rfl, h0, h1, h2, h3⟩ := open_agg4 Try.underlying24 (by kernel_rfl) (by kernel_rfl) hv h
  obtain ⟨a, ea, _, wa⟩ := DataW.trod_int Try.underlying22 h0
  obtain ⟨b, eb, _, wb⟩ := DataW.trod_int Try.underlying22 h1
  obtain ⟨c, ec, _, wc⟩ := DataW.trod_int Try.underlying22 h2
  obtain ⟨d, ed, _, wd⟩ := DataW.trod_int Try.underlying22 h3
  cases ea; cases eb; cases ec; cases ed
  exact ⟨⟨a, b, c, d⟩, rfl, wa, wb, wc, wd⟩
end Go.Proofs.Ytgjaennilkhejaa

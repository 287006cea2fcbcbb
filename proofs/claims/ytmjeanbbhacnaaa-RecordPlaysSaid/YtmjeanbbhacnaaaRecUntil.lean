/- The walk of until, over whatever deeds it is handed. No condition. -/
import Derived.Test.YtmjeanbbhacnaaaDiskRoom
import Derived.Test.YtmjeanbbhacnaaaRecFrames
namespace Go.Proofs.Ytmjeanbbhacnaaa
open Go.RowKit
attribute [local go_sem ↓] Go.wp_at_zero Go.wp_at_succ
/-- Deeds, one behind the other, each from a world that its condition holds of; the first that fails ends it. -/
def RunAll (lb : Nat) (row : Array Value) : List (FuncId × Array Value) → (World → Prop) → (Int → World → Prop) → Prop
  | [], I, Q => ∀ w, I w → Q 0 w
  | fc :: r, I, Q => (∀ args w, (callFunc fc.1 args).run Try.prog w = .ok (.enter fc.1 args) w) ∧ (∀ w, I w → w.heap[lb]? = some (.cells row 75 (0, 0))) ∧
    ∃ I' : World → Prop, (∀ w, I w → Calls Try.prog fc.1 fc.2 w fun e w' => ∃ x, e = .returned (.int .i64 x) ∧ (x ≠ 0 → Q x w') ∧ (x = 0 → I' w')) ∧ RunAll lb row r I' Q
def rowOf (fs : List (FuncId × Array Value)) : Array Value := (fs.map fun p => Value.func (.func p.1) #[] p.2).toArray
set_option maxRecDepth 100000 in
set_option maxHeartbeats 800000 in
theorem until_any (fs : List (FuncId × Array Value)) (lb cap : Nat) (I : World → Prop) (Q : Int → World → Prop) (h : RunAll lb (rowOf fs) fs I Q) (w : World) (hI : I w) (hn : (fs.length : Int) ≤ 1000) :
    Calls Try.prog 68 #[.slice (some ⟨lb, 0, none⟩) fs.length cap] w fun e w' => ∃ x, e = .returned (.int .i64 x) ∧ Q x w' := by
  obtain ⟨n, hnn⟩ : ∃ n, n = fs.length := ⟨_, rfl⟩
  rw [← hnn] at hn ⊢
  have H := Lib.hid (And.intro h (And.intro hI hnn))
  clear h hI hnn
  go_enter Try.func68, Try.ntmps68
  go_wp2_with fail
  go_loopw [8] (fun i wr => ∃ (j : Nat) (I : World → Prop), i = .int .i64 j ∧ (j : Int) ≤ n ∧ I wr ∧ RunAll lb (rowOf fs) (fs.drop j) I Q) (fun i _ => n - (intOf i).toNat)
  case atStart => exact ⟨0, I, rfl, by omega, H.out.2.1, by rw [List.drop_zero]; exact H.out.1⟩
  case round =>
    obtain ⟨j, J, rfl, hj, hJ, hR⟩ := hrel
    have hj0 : (0 : Int) ≤ (j : Int) := by omega
    by_cases hlt : (j : Int) < (n : Int)
    · have hjl : j < fs.length := by rw [← H.out.2.2]; omega
      rw [List.drop_eq_getElem_cons hjl] at hR
      obtain ⟨hf, hrow, I', hc, hR'⟩ := hR
      have hcell : wr.cell? ⟨lb, j, none⟩ = some (.func (.func fs[j].1) #[] fs[j].2) := by
        rw [cell_of_row wr lb j _ _ _ (hrow wr hJ)]
        simp [rowOf, hjl]
      have hcall := hc wr hJ
      obtain ⟨f, hf0⟩ : ∃ f, f = fs[j].1 := ⟨_, rfl⟩
      obtain ⟨c, hc0⟩ : ∃ c, c = fs[j].2 := ⟨_, rfl⟩
      rw [← hf0, ← hc0] at hcell hcall
      rw [← hf0] at hf
      have Hc := Lib.hid hcall
      have HR := Lib.hid hR'
      clear hcall hR' hc hrow hJ hf0 hc0 hjl
      go_wp2_with fail
      refine Hc.out.mono ?_
      rintro e w1 ⟨x, rfl, hx1, hx0⟩
      have HX := Lib.hid (And.intro hx1 hx0)
      clear hx1 hx0 Hc
      by_cases hx : x = 0
      · subst hx
        go_wp2_with fail
        exact ⟨⟨j + 1, I', by go_num, by omega, HX.out.2 (by first | trivial | rfl), HR.out⟩, by simp [intOf]; omega⟩
      · have hxb : (x == 0) = false := beq_eq_false_iff_ne.2 hx
        go_wp2_with fail
        go_ret
        exact ⟨x, rfl, HX.out.1 hx⟩
    · have hjn : fs.drop j = [] := List.drop_eq_nil_of_le (by rw [← H.out.2.2]; omega)
      rw [hjn] at hR
      have HR := Lib.hid (hR wr hJ)
      clear hR hjn
      go_wp2_with fail
      go_ret
      exact ⟨0, rfl, HR.out⟩
end Go.Proofs.Ytmjeanbbhacnaaa

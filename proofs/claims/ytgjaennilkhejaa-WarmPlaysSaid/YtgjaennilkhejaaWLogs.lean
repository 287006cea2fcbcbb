/- The walk of Logs: a list of the logs. The bounds: at most 10^6 changes; topics that Go lets one have. -/
import Derived.Test.YtgjaennilkhejaaWSame
namespace Go.Proofs.Ytgjaennilkhejaa
open Go.RowKit
attribute [local go_sem ↓] Go.wp_at_zero Go.wp_at_succ
def G.lg : G → Option (Lg × Option Nat × Nat)
  | .log l tb tc => some (l, tb, tc)
  | _ => none
def lgCells (x : Lg × Option Nat × Nat) : List Value := [.string x.1.addr, .slice (x.2.1.map fun b => ⟨b, 0, none⟩) x.1.topics.length x.2.2, .string x.1.data]
theorem logCells_lg (gs : List G) : logCells gs = (gs.filterMap G.lg).flatMap lgCells := by
  induction gs with
  | nil => rfl
  | cons c r ih =>
    rw [show logCells (c :: r) = c.logCells ++ logCells r from rfl, ih]
    cases c <;> rfl
theorem logsOf_lg (gs : List G) : logsOf (absL gs) = (gs.filterMap G.lg).map (·.1) := by
  induction gs with
  | nil => rfl
  | cons c r ih =>
    unfold logsOf absL at ih ⊢
    cases c with
    | key f v bm bk => exact ih
    | refund n bs bn => exact ih
    | log l tb tc => exact congrArg (l :: ·) ih
section
variable {w w' : World} {s : Nat} {g : Gs} {gs : List G}
theorem SetC.logsAt (h : SetC w s g gs gs) (hb : Below w.heap.size w w') {tb : Option Nat} {tc : Nat} (hr : VRow 34 3 w' tb tc (logsOf (absL gs)).length (logCells gs)) (hsm : ∀ l ∈ logsOf (absL gs), (l.topics.length : Int) ≤ 281474976710656) :
    LogsAt w' tb (logsOf (absL gs)).length (logsOf (absL gs)) := by
  refine ⟨rfl, fun i hi => ?_⟩
  have hi2 : i < (gs.filterMap G.lg).length := by rw [logsOf_lg, List.length_map] at hi; exact hi
  obtain ⟨x, hx⟩ : ∃ x, x = (gs.filterMap G.lg)[i] := ⟨_, rfl⟩
  have hxe : (logsOf (absL gs))[i] = x.1 := by simp only [logsOf_lg, List.getElem_map, hx]
  have hmem : x ∈ gs.filterMap G.lg := by rw [hx]; exact List.getElem_mem hi2
  obtain ⟨c, hc, hcx⟩ := List.mem_filterMap.1 hmem
  have hok := h.okN c hc
  obtain ⟨l, tb2, tc2⟩ := x
  cases c with
  | key f v bm bk => simp [G.lg] at hcx
  | refund n bs bn => simp [G.lg] at hcx
  | log l3 tb3 tc3 =>
    simp only [G.lg, Option.some.injEq, Prod.mk.injEq] at hcx
    obtain ⟨rfl, rfl, rfl⟩ := hcx
    have hg := fun j (hj : j < 3) => flat_get lgCells 3 (gs.filterMap G.lg) (fun _ _ => rfl) i hi2 j hj
    rw [← logCells_lg, ← hx] at hg
    have hlen := hr.1
    have hcl : ∀ j, j < 3 → ∃ b, tb = some b ∧ b < w'.heap.size ∧ w'.cell? ⟨b, i * 3 + j, none⟩ = (logCells gs)[i * 3 + j]? := fun j hj => by
      have hlt : i * 3 + j < (logCells gs).length := by omega
      obtain ⟨b, hb, hcell⟩ := hr.cell (i * 3 + j) hlt
      have hr2 := hr
      rw [hb] at hr2
      exact ⟨b, hb, hr2.lt, by rw [hcell, List.getElem?_eq_getElem hlt]⟩
    obtain ⟨b, hb0, hlt, e0⟩ := hcl 0 (by omega)
    obtain ⟨b1, hb1, _, e1⟩ := hcl 1 (by omega)
    obtain ⟨b2, hb2, _, e2⟩ := hcl 2 (by omega)
    rw [hb0] at hb1 hb2
    cases hb1; cases hb2
    rw [hxe]
    refine ⟨b, tb3.map fun b => ⟨b, 0, none⟩, tc3, hb0, hlt, e0.trans (hg 0 (by omega)), e1.trans (hg 1 (by omega)), e2.trans (hg 2 (by omega)), ?_, hsm _ (by rw [← hxe]; exact List.getElem_mem hi)⟩
    have h1 : VRow 24 4 w tb3 tc3 l3.topics.length (W4s l3.topics) := hok
    exact (h1.below hb).arg (W4s_one _)
set_option maxRecDepth 100000 in
theorem logs_c (h : SetC w s g gs gs) (hlen : gs.length < 1000000) (hsm : ∀ l ∈ logsOf (absL gs), (l.topics.length : Int) ≤ 281474976710656) :
    Calls Try.prog 17 #[.pointer (some ⟨s, 0, none⟩)] w fun e w' => ∃ (tb : Option Nat) (tc : Nat), e = .returned (.slice (tb.map fun b => ⟨b, 0, none⟩) (logsOf (absL gs)).length tc) ∧
      LogsAt w' tb (logsOf (absL gs)).length (logsOf (absL gs)) ∧ Below w.heap.size w w' := by
  have hnl : (logsOf (absL gs)).length < 1000000 := by have := logsOf_le (absL gs); rw [show (absL gs).length = gs.length by simp [absL]] at this; omega
  have hcl := cloneL_any w _ _ _ _ (h.logs.arg (logCells_one gs)) (by omega) (by omega)
  obtain ⟨_, _, _, _, _, c5, _⟩ := h.cells
  obtain ⟨la, hla⟩ : ∃ la : Option Addr, la = g.lb.map fun b => ⟨b, 0, none⟩ := ⟨_, rfl⟩
  obtain ⟨nl, hnl2⟩ : ∃ nl, nl = (logsOf (absL gs)).length := ⟨_, rfl⟩
  rw [← hla, ← hnl2] at hcl c5
  have Hcl := Lib.hid hcl
  have HH := Lib.hid (And.intro h (And.intro hsm hnl2))
  rw [← hnl2]
  clear h hlen hsm hnl hcl hla hnl2
  go_enter Try.func17, Try.ntmps17
  go_wp2_with fail
  refine Hcl.out.mono ?_
  rintro e w1 ⟨tb, tc, rfl, ⟨hr, _⟩, hb⟩
  have HR := Lib.hid (And.intro hr hb)
  clear hr hb
  go_wp2_with fail
  go_ret
  obtain ⟨h, hsm, hn⟩ := HH.out
  obtain ⟨hr, hb⟩ := HR.out
  rw [hn] at hr ⊢
  exact ⟨tb, tc, rfl, h.logsAt hb hr hsm, hb⟩
end
theorem logs_one {W0 w : World} {s : Nat} {L : List Ch} (h : One W0 w s L) (hlen : L.length < 1000000) (hsm : ∀ l ∈ logsOf L, (l.topics.length : Int) ≤ 281474976710656) :
    Calls Try.prog 17 #[.pointer (some ⟨s, 0, none⟩)] w fun e w' => ∃ (tb : Option Nat) (tc : Nat), e = .returned (.slice (tb.map fun b => ⟨b, 0, none⟩) (logsOf L).length tc) ∧
      LogsAt w' tb (logsOf L).length (logsOf L) ∧ One W0 w' s L ∧ Below w.heap.size w w' := by
  have h0 := h
  obtain ⟨F, ⟨g, gs, hC, rfl, rfl⟩, _⟩ := h
  refine (logs_c hC (by simpa [absL] using hlen) hsm).mono ?_
  rintro e w' ⟨tb, tc, rfl, h1, h2⟩
  exact ⟨tb, tc, rfl, h1, h0.below h2, h2⟩
theorem log_one {W0 w : World} {s : Nat} {L : List Ch} (h : One W0 w s L) (l : Lg) (a : Option Addr) (cap : Nat) (hv : VArg 4 w a cap l.topics.length (W4s l.topics)) (hby : l.topics.length * 32 ≤ 281474976710656) (hlen : L.length < 1000000) :
    Calls Try.prog 15 #[.pointer (some ⟨s, 0, none⟩), .agg #[.string l.addr, .slice a l.topics.length cap, .string l.data]] w fun e w' => e = .returned (.tuple #[]) ∧ One W0 w' s (L ++ [.log l]) := Calls.one h fun F hF => by
  obtain ⟨g, gs, hC, rfl, rfl⟩ := hF
  exact log_c hC l a cap hv hby (by simpa [absL] using hlen)
end Go.Proofs.Ytgjaennilkhejaa

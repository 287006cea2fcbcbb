/- The walks of what Append hands to step: the deed itself, and what is torn. The one bound: a file, and what is laid, have together at most 2^40 bytes. -/
import Derived.Test.YtmjeanbbhacnaaaDiskStep
import Derived.Deep.RegionHeld3
import Derived.Deep.DrawnRows
import Derived.Deep.DeepCutAuto
import Derived.Deep.QuietTactic
import Derived.BigQuiet
namespace Go.Proofs.Ytmjeanbbhacnaaa
open Go.RowKit
attribute [local go_sem ↓] Go.wp_at_zero Go.wp_at_succ
theorem call46 : ∀ args w, (callFunc 46 args).run Try.prog w = .ok (.enter 46 args) w := fun _ _ => by kernel_rfl
theorem call48 : ∀ args w, (callFunc 48 args).run Try.prog w = .ok (.enter 48 args) w := fun _ _ => by kernel_rfl
/-- What Append leaves. -/
def Left (w : World) (d mb : Nat) (gs : List G) (room after torn : Int) (dead : Bool) (l : List Fi) (w' : World) : Prop :=
  ∃ gs' clock', DiskC w' d mb gs' clock' room after torn dead ∧ gs'.map G.abs = l ∧ Eff (foot d mb gs) w (foot d mb gs') w'
/-- How many bytes are torn. -/
def tornK (torn : Int) (n : Nat) : Nat := (max (min torn n) 0).toNat
theorem tornK_le (torn : Int) (n : Nat) : tornK torn n ≤ n := by unfold tornK; omega
/-- What a torn append leaves. -/
def tornL (l : List Fi) (n : ByteArray) (s : List UInt8) (fits : Bool) (k : Nat) : List Fi := if fits = true ∧ 0 < k then flay l n (s.take k) else l
theorem tornL_no (l : List Fi) (n : ByteArray) (s : List UInt8) (fits : Bool) (k : Nat) (h : fits = false ∨ ¬ 0 < k) : tornL l n s fits k = l := by
  unfold tornL
  rw [if_neg]
  rintro ⟨h1, h2⟩
  rcases h with h | h
  · rw [h] at h1; cases h1
  · exact h h2
theorem tornL_yes (l : List Fi) (n : ByteArray) (s : List UInt8) (k : Nat) (h : 0 < k) : tornL l n s true k = flay l n (s.take k) := by
  unfold tornL; rw [if_pos ⟨rfl, h⟩]
section
variable {w : World} {d mb : Nat} {gs : List G} {clock : Nat} {room after torn : Int} {dead : Bool}
theorem DiskC.drew (h : DiskC w d mb gs clock room after torn dead) : DiskC w.drew d mb gs clock room after torn dead := h.kept fun _ _ => rfl
/-- A block of another type is none of the disk's. -/
theorem DiskC.not_foot (h : DiskC w d mb gs clock room after torn dead) {k : Nat} {cs : Array Value} {t : TypeId} {fr : Nat × Nat} (hk : w.heap[k]? = some (.cells cs t fr)) (h1 : t ≠ 72) (h2 : t ≠ 80) (h3 : t ≠ 5) : ¬ foot d mb gs k := by
  intro hf
  rcases hf with rfl | rfl | ⟨g, hg, rfl | e⟩
  · rw [h.disk] at hk; simp only [Option.some.injEq, Obj.cells.injEq] at hk; exact h1 hk.2.1.symm
  · rw [h.map] at hk; cases hk
  · rw [(h.ok g hg).file] at hk; simp only [Option.some.injEq, Obj.cells.injEq] at hk; exact h2 hk.2.1.symm
  · have hr := (h.ok g hg).row; rw [e] at hr
    obtain ⟨row, fr, hb, _⟩ := hr
    rw [hb] at hk; simp only [Option.some.injEq, Obj.cells.injEq] at hk; exact h3 hk.2.1.symm
theorem Left.keep {w' : World} {l : List Fi} (hL : Left w d mb gs room after torn dead l w') {k : Nat} {o : Obj} (hk : w.heap[k]? = some o) (hn : ¬ foot d mb gs k) : w'.heap[k]? = some o := by
  obtain ⟨_, _, _, _, he⟩ := hL
  exact (he.keep k (lt_of_block hk) hn).trans hk
theorem Left.same (h : DiskC w d mb gs clock room after torn dead) {w' : World} (hb : Below w.heap.size w w') : Left w d mb gs room after torn dead (gs.map G.abs) w' :=
  ⟨gs, clock, h.below hb, rfl, Eff.below hb⟩
set_option maxRecDepth 100000 in
theorem do_append (hd : DiskC w d mb gs clock room after torn dead) (n s : ByteArray) (fits : Bool) (hb : fits = true → ∀ g ∈ gs, g.bytes.length + s.size ≤ 1099511627776) (hs : fits = true → s.size ≤ 1099511627776) (b1 b2 b3 b4 : Nat)
    (c1 : w.cell? ⟨b1, 0, none⟩ = some (.bool fits)) (c2 : w.cell? ⟨b2, 0, none⟩ = some (.pointer (some ⟨d, 0, none⟩))) (c3 : w.cell? ⟨b3, 0, none⟩ = some (.string n)) (c4 : w.cell? ⟨b4, 0, none⟩ = some (.string s)) :
    Calls Try.prog 46 #[.pointer (some ⟨b1, 0, none⟩), .pointer (some ⟨b2, 0, none⟩), .pointer (some ⟨b3, 0, none⟩), .pointer (some ⟨b4, 0, none⟩)] w fun e w' =>
      ∃ x, e = .returned (.int .i64 x) ∧ (x = (if fits then 0 else 5) ∧ Left w d mb gs room after torn dead (if fits then flay (gs.map G.abs) n s.data.toList else gs.map G.abs) w') := by
  cases fits
  · go_enter Try.func46, Try.ntmps46
    go_wp2_with fail
    go_ret
    exact ⟨5, rfl, rfl, Left.same hd (Below.refl _ _)⟩
  · have hl := lay_any hd n s (hb rfl) (hs rfl)
    have Hl := Lib.hid hl
    clear hl
    go_enter Try.func46, Try.ntmps46
    go_wp2_with fail
    refine Hl.out.mono ?_
    rintro e w1 ⟨rfl, hR⟩
    have HR := Lib.hid hR
    clear hR
    go_wp2_with fail
    go_ret
    exact ⟨0, rfl, rfl, HR.out⟩
set_option maxRecDepth 100000 in
theorem do_torn (hd : DiskC w d mb gs clock room after torn dead) (n s : ByteArray) (fits : Bool) (hb : fits = true → ∀ g ∈ gs, g.bytes.length + s.size ≤ 1099511627776) (hs : fits = true → s.size ≤ 1099511627776) (b1 b2 b3 b4 : Nat)
    (o1 : w.heap[b1]? = some (.cells #[.pointer (some ⟨d, 0, none⟩)] 23 (0, 0))) (o2 : w.heap[b2]? = some (.cells #[.string s] 9 (0, 0))) (o3 : w.heap[b3]? = some (.cells #[.bool fits] 4 (0, 0))) (o4 : w.heap[b4]? = some (.cells #[.string n] 9 (0, 0))) :
    Calls Try.prog 48 #[.pointer (some ⟨b1, 0, none⟩), .pointer (some ⟨b2, 0, none⟩), .pointer (some ⟨b3, 0, none⟩), .pointer (some ⟨b4, 0, none⟩)] w fun e w' =>
      e = .returned (.tuple #[]) ∧ Left w d mb gs room after torn dead (tornL (gs.map G.abs) n s.data.toList fits (tornK torn s.size)) w' := by
  have t3 := hd.cell.2.2.2.1
  have c1 := cell_of_one o1
  have c2 := cell_of_one o2
  have c3 := cell_of_one o3
  have c4 := cell_of_one o4
  have n1 := hd.not_foot o1 (by decide) (by decide) (by decide)
  have n2 := hd.not_foot o2 (by decide) (by decide) (by decide)
  have n4 := hd.not_foot o4 (by decide) (by decide) (by decide)
  have O := Lib.hid (And.intro o1 (And.intro o2 o4))
  clear o1 o2 o3 o4
  go_enter Try.func48, Try.ntmps48
  go_upto_region 0 with fail
  go_cut [4] (fun v wx => v = .int .i64 (tornK torn s.size : Nat) ∧ ∃ q, wx = w.drewN q)
  case first =>
    go_quiet (fail)
    go_wp2_with fail
    all_goals (go_meet; refine ⟨?_, _, rfl⟩; apply congrArg; unfold tornK; omega)
  case rest =>
    obtain ⟨rfl, q, rfl⟩ := hcut
    have hq : DiskC (w.drewN q) d mb gs clock room after torn dead := hd.kept fun _ _ => rfl
    obtain ⟨k, hk⟩ : ∃ k, k = tornK torn s.size := ⟨_, rfl⟩
    have hkl : (k : Int) ≤ (s.size : Int) := by have := tornK_le torn s.size; omega
    rw [← hk]
    have Hk := Lib.hid hk
    clear hk
    cases fits
    · go_wp2_with fail
      go_end0
      refine ⟨rfl, ?_⟩
      rw [tornL_no _ _ _ _ _ (.inl rfl)]
      exact Left.same hd ⟨rfl, rfl, rfl, Nat.le_refl _, fun _ _ => rfl⟩
    · by_cases h0 : 0 < k
      · have h0' : (0 : Int) < (k : Int) := by omega
        have hx : (s.extract 0 k).size = k := by simp; omega
        have hq1 : DiskC (w.drewN (q + 1)) d mb gs clock room after torn dead := hd.kept fun _ _ => rfl
        have hlay := lay_any hq1 n (s.extract 0 k) (fun g hg => by have := hb rfl g hg; omega) (by have := hs rfl; omega)
        rw [show (s.extract 0 k).data.toList = s.data.toList.take k by simp] at hlay
        have Hl := Lib.hid hlay
        clear hlay hx
        have hk00 : (0 : Int) ≤ (k : Int) := by omega
        go_wp2_with fail
        go_region_held3 (fun w' => w'.cell? ⟨b1, 0, none⟩ = some (.pointer (some ⟨d, 0, none⟩)) ∧ w'.cell? ⟨b2, 0, none⟩ = some (.string s) ∧ w'.cell? ⟨b4, 0, none⟩ = some (.string n)) (first | exact ⟨c1, c2, c4⟩ | exact ⟨cell_of_one (Left.keep hbx O.out.1 n1), cell_of_one (Left.keep hbx O.out.2.1 n2), cell_of_one (Left.keep hbx O.out.2.2 n4)⟩) (first | (go_at_call 47; ((with_reducible refine (Hl.out).mono ?_); rintro e wx ⟨rfl, hbx⟩)))
        rename_i hS
        go_wp2_with fail
        go_end0
        rw [← Hk.out, tornL_yes _ _ _ _ h0]
        refine ⟨rfl, ?_⟩
        obtain ⟨gs', ck, a1, a2, a3⟩ := hbx
        exact ⟨gs', ck, a1, a2, (Eff.below (F := foot d mb gs) (a := w) (b := w.drewN (q + 1)) ⟨rfl, rfl, rfl, Nat.le_refl _, fun _ _ => rfl⟩).trans a3⟩
      · have h0' : ¬ (0 : Int) < (k : Int) := by omega
        go_wp2_with fail
        go_end0
        refine ⟨rfl, ?_⟩
        rw [← Hk.out, tornL_no _ _ _ _ _ (.inr h0)]
        exact Left.same hd ⟨rfl, rfl, rfl, Nat.le_refl _, fun _ _ => rfl⟩
end
end Go.Proofs.Ytmjeanbbhacnaaa

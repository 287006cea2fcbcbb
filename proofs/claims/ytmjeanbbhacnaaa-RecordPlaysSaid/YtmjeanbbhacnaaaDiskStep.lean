/- The walk of (*Disk).step, over whatever it is handed to do. No condition. -/
import Derived.Test.YtmjeanbbhacnaaaDiskUsed
namespace Go.Proofs.Ytmjeanbbhacnaaa
open Go.RowKit
section
variable {w : World} {d mb : Nat} {gs : List G} {clock : Nat} {room after torn : Int} {dead : Bool}
theorem step_dead (h : DiskC w d mb gs clock room after torn true) (v1 v2 : Value) : Calls Try.prog 45 #[.pointer (some ⟨d, 0, none⟩), v1, v2] w fun e w' => e = .returned (.int .i64 19) ∧ w = w' := by
  have c4 := h.cell.2.2.2.2
  go_enter Try.func45, Try.ntmps45
  go_wp2_with fail
  go_ret
  exact ⟨rfl, rfl⟩
set_option maxRecDepth 100000 in
theorem step_crash (h : DiskC w d mb gs clock room 0 torn false) (v1 : Value) (f : FuncId) (cap : Array Value) (hf : ∀ args w, (callFunc f args).run Try.prog w = .ok (.enter f args) w) (R : World → Prop)
    (ht : Calls Try.prog f cap (w.setCell ⟨d, 4, none⟩ (.bool true)) fun e w' => e = .returned (.tuple #[]) ∧ R w') :
    Calls Try.prog 45 #[.pointer (some ⟨d, 0, none⟩), v1, .func (.func f) #[] cap] w fun e w' => e = .returned (.int .i64 19) ∧ R w' := by
  have c2 := h.cell.2.2.1
  have c4 := h.cell.2.2.2.2
  have f4 := h.free 4
  have Ht := Lib.hid ht
  clear ht
  go_enter Try.func45, Try.ntmps45
  go_wp2_with fail
  refine Ht.out.mono ?_
  rintro e w1 ⟨rfl, hR⟩
  have HR := Lib.hid hR
  clear hR
  go_wp2_with fail
  go_ret
  exact ⟨rfl, HR.out⟩
set_option maxRecDepth 100000 in
theorem step_go (h : DiskC w d mb gs clock room after torn false) (ha : after < 0) (v2 : Value) (f : FuncId) (cap : Array Value) (hf : ∀ args w, (callFunc f args).run Try.prog w = .ok (.enter f args) w) (R : Int → World → Prop)
    (ht : Calls Try.prog f cap w fun e w' => ∃ x, e = .returned (.int .i64 x) ∧ R x w') :
    Calls Try.prog 45 #[.pointer (some ⟨d, 0, none⟩), .func (.func f) #[] cap, v2] w fun e w' => ∃ x, e = .returned (.int .i64 x) ∧ R x w' := by
  have c2 := h.cell.2.2.1
  have c4 := h.cell.2.2.2.2
  have h0 : (after == 0) = false := beq_eq_false_iff_ne.2 (by omega)
  have h1 : ¬ 0 < after := by omega
  have Ht := Lib.hid ht
  clear ht
  go_enter Try.func45, Try.ntmps45
  go_wp2_with fail
  refine Ht.out.mono ?_
  rintro e w1 ⟨x, rfl, hR⟩
  have HR := Lib.hid hR
  clear hR
  go_wp2_with fail
  go_ret
  exact ⟨x, rfl, HR.out⟩
set_option maxRecDepth 100000 in
theorem step_dec (h : DiskC w d mb gs clock room after torn false) (ha : 0 < after) (ha2 : after ≤ 9223372036854775807) (v2 : Value) (f : FuncId) (cap : Array Value) (hf : ∀ args w, (callFunc f args).run Try.prog w = .ok (.enter f args) w) (R : Int → World → Prop)
    (ht : Calls Try.prog f cap (w.setCell ⟨d, 2, none⟩ (.int .i64 (after - 1))) fun e w' => ∃ x, e = .returned (.int .i64 x) ∧ R x w') :
    Calls Try.prog 45 #[.pointer (some ⟨d, 0, none⟩), .func (.func f) #[] cap, v2] w fun e w' => ∃ x, e = .returned (.int .i64 x) ∧ R x w' := by
  have c2 := h.cell.2.2.1
  have c4 := h.cell.2.2.2.2
  have f2 := h.free 2
  have h0 : (after == 0) = false := beq_eq_false_iff_ne.2 (by omega)
  have Ht := Lib.hid ht
  clear ht
  go_enter Try.func45, Try.ntmps45
  go_wp2_with fail
  refine Ht.out.mono ?_
  rintro e w1 ⟨x, rfl, hR⟩
  have HR := Lib.hid hR
  clear hR
  go_wp2_with fail
  go_ret
  exact ⟨x, rfl, HR.out⟩
end
end Go.Proofs.Ytmjeanbbhacnaaa

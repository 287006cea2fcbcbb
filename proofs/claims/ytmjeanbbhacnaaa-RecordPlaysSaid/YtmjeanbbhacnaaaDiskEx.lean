/- The examples of chapter 6. No condition. -/
import Derived.Test.YtmjeanbbhacnaaaDiskOne
namespace Go.Proofs.Ytmjeanbbhacnaaa
open Go.RowKit
/-! ### states, worked out -/
theorem St.append_ok {l : List Fi} {room torn : Int} {n : ByteArray} {s : List UInt8} (h : (ftotal l : Int) + s.length ≤ room) : St.append ⟨l, room, -1, torn, false⟩ n s = (⟨flay l n s, room, -1, torn, false⟩, 0) := by
  unfold St.append
  have hf : St.fits ⟨l, room, -1, torn, false⟩ s.length = true := by unfold St.fits; exact decide_eq_true h
  rw [hf]; rfl
theorem St.append_full {l : List Fi} {room torn : Int} {n : ByteArray} {s : List UInt8} (h : room < (ftotal l : Int) + s.length) : St.append ⟨l, room, -1, torn, false⟩ n s = (⟨l, room, -1, torn, false⟩, 5) := by
  unfold St.append
  have hf : St.fits ⟨l, room, -1, torn, false⟩ s.length = false := by unfold St.fits; exact decide_eq_false (by simp only; omega)
  rw [hf]; rfl
theorem St.deed_ok {l : List Fi} {room torn : Int} {n : ByteArray} {F : List Fi → List Fi} (h : (fget l n).isSome = true) : St.deed ⟨l, room, -1, torn, false⟩ n F = (⟨F l, room, -1, torn, false⟩, 0) := by
  unfold St.deed; simp only; rw [h]; rfl
theorem St.deed_none {l : List Fi} {room torn : Int} {n : ByteArray} {F : List Fi → List Fi} (h : (fget l n).isSome = false) : St.deed ⟨l, room, -1, torn, false⟩ n F = (⟨l, room, -1, torn, false⟩, 6) := by
  unfold St.deed; simp only; rw [h]; rfl
theorem St.append_dec {l : List Fi} {room after torn : Int} {n : ByteArray} {s : List UInt8} (ha : 0 < after) (h : (ftotal l : Int) + s.length ≤ room) : St.append ⟨l, room, after, torn, false⟩ n s = (⟨flay l n s, room, after - 1, torn, false⟩, 0) := by
  have hf : St.fits ⟨l, room, after, torn, false⟩ s.length = true := by unfold St.fits; exact decide_eq_true h
  unfold St.append
  rw [hf]
  show (if after = 0 then _ else _) = _
  rw [if_neg (by omega)]
  simp only [if_true, if_pos ha]
theorem St.append_crash {l : List Fi} {room torn : Int} {n : ByteArray} {s : List UInt8} : St.append ⟨l, room, 0, torn, false⟩ n s = (⟨tornL l n s (decide ((ftotal l : Int) + s.length ≤ room)) (tornK torn s.length), room, 0, torn, true⟩, 19) := rfl
theorem St.append_dead {l : List Fi} {room after torn : Int} {n : ByteArray} {s : List UInt8} : St.append ⟨l, room, after, torn, true⟩ n s = (⟨l, room, after, torn, true⟩, 19) := rfl
def bs (l : List UInt8) : ByteArray := ⟨l.toArray⟩
set_option maxRecDepth 100000 in
set_option maxHeartbeats 1600000 in
theorem examples06 (w : World) : Calls Try.prog 15 #[] w fun e w' => e = .returned (.bool true) ∧ Below w.heap.size w w' := by
  have hnew := new_one (Below.refl w.heap.size w) 3 (by omega) (by omega)
  have h1 : St.append ⟨[], 3, -1, 0, false⟩ ⟨#[102]⟩ [97, 98, 99, 100] = (⟨[], 3, -1, 0, false⟩, 5) := St.append_full (by simp [ftotal])
  have h2 : St.append ⟨[], 3, -1, 0, false⟩ ⟨#[102]⟩ [97, 98, 99] = (⟨[⟨⟨#[102]⟩, [97, 98, 99], 0⟩], 3, -1, 0, false⟩, 0) := St.append_ok (by simp [ftotal])
  have h3 : St.deed ⟨[⟨⟨#[102]⟩, [97, 98, 99], 0⟩], 3, -1, 0, false⟩ ⟨#[103]⟩ (fsync ⟨#[103]⟩) = (⟨[⟨⟨#[102]⟩, [97, 98, 99], 0⟩], 3, -1, 0, false⟩, 6) := St.deed_none (by decide)
  have H := Lib.hid (And.intro hnew (And.intro h1 (And.intro h2 h3)))
  clear hnew h1 h2 h3
  go_enter Try.func15, Try.ntmps15
  go_wp2_with fail
  refine H.out.1.mono ?_
  rintro e w1 ⟨d, rfl, hO⟩
  go_wp2_with fail
  refine (new_bad w1 (-1) (by omega)).mono ?_
  rintro e w2 ⟨rfl, rfl⟩
  go_wp2_with fail
  refine (append_one hO ⟨#[102]⟩ ⟨#[97, 98, 99, 100]⟩ (by decide) H.out.2.1).mono ?_
  rintro e w3 ⟨rfl, hO3⟩
  clear hO
  go_wp2_with fail
  refine (append_one hO3 ⟨#[102]⟩ ⟨#[97, 98, 99]⟩ (by decide) H.out.2.2.1).mono ?_
  rintro e w4 ⟨rfl, hO4⟩
  clear hO3
  go_wp2_with fail
  refine (read_one hO4 ⟨#[102]⟩).mono ?_
  rintro e w5 ⟨rfl, rfl⟩
  have e1 : rdText [⟨⟨#[102]⟩, [97, 98, 99], 0⟩] ⟨#[102]⟩ = ⟨#[97, 98, 99]⟩ := by decide
  have e2 : rdThere [⟨⟨#[102]⟩, [97, 98, 99], 0⟩] ⟨#[102]⟩ = true := by decide
  rw [e1, e2]
  clear e1 e2
  go_wp2_with fail
  refine (used_one hO4).mono ?_
  rintro e w6 ⟨rfl, hO6⟩
  clear hO4
  rw [show ftotal [⟨⟨#[102]⟩, [97, 98, 99], 0⟩] = 3 from rfl]
  go_wp2_with fail
  refine (sync_one hO6 ⟨#[103]⟩ H.out.2.2.2).mono ?_
  rintro e w7 ⟨rfl, hO7⟩
  go_wp2_with fail
  go_ret
  exact ⟨rfl, hO7.world⟩
end Go.Proofs.Ytmjeanbbhacnaaa

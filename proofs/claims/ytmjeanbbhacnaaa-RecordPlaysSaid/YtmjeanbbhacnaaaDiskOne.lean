/- The contracts at one disk, and at one of two. -/
import Derived.Test.YtmjeanbbhacnaaaDiskAt
namespace Go.Proofs.Ytmjeanbbhacnaaa
open Go.RowKit
section
variable {W0 w : World} {d d2 : Nat} {st st2 : St}
theorem One.below {w' : World} (h : One W0 w d st) (hb : Below w.heap.size w w') : One W0 w' d st := by
  obtain ⟨F, h1, h2, h3⟩ := h
  exact ⟨F, h1.kept fun k hk => hb.block k (h1.lt hk), h2, h3.trans (hb.mono h3.size)⟩
theorem Two.below {w' : World} (h : Two W0 w d st d2 st2) (hb : Below w.heap.size w w') : Two W0 w' d st d2 st2 := by
  obtain ⟨F, F2, h1, h2, h3, h4, h5, h6⟩ := h
  exact ⟨F, F2, h1.kept fun k hk => hb.block k (h1.lt hk), h2.kept fun k hk => hb.block k (h2.lt hk), h3, h4, h5, h6.trans (hb.mono h6.size)⟩
theorem One.world (h : One W0 w d st) : Below W0.heap.size W0 w := by
  obtain ⟨F, h1, h2, h3⟩ := h; exact h3
theorem One.named (h : One W0 w d st) : Named st.files := by
  obtain ⟨F, h1, h2, h3⟩ := h; exact h1.named
theorem One.small (h : One W0 w d st) : st.Small := by
  obtain ⟨F, ⟨_, _, _, _, _, _, h1⟩, h2, h3⟩ := h; exact h1
/-- A step of a disk, at one and at two. -/
theorem Calls.one {f : FuncId} {args : Array Value} {E : Ending → Prop} {st' : St} (h : One W0 w d st) (hc : ∀ F, At w d st F → Calls Try.prog f args w fun e w' => E e ∧ Turns w d F st' w') :
    Calls Try.prog f args w fun e w' => E e ∧ One W0 w' d st' := by
  obtain ⟨F, h1, h2, h3⟩ := h
  refine (hc F h1).mono ?_
  rintro e w' ⟨he, ht⟩
  exact ⟨he, One.turn h2 h3 ht⟩
theorem Calls.two {f : FuncId} {args : Array Value} {E : Ending → Prop} {st' : St} (h : Two W0 w d st d2 st2) (hc : ∀ F, At w d st F → Calls Try.prog f args w fun e w' => E e ∧ Turns w d F st' w') :
    Calls Try.prog f args w fun e w' => E e ∧ Two W0 w' d st' d2 st2 := by
  obtain ⟨F, F2, h1, h2, h3, h4, h5, h6⟩ := h
  refine (hc F h1).mono ?_
  rintro e w' ⟨he, ht⟩
  exact ⟨he, Two.turn h2 h3 h4 h5 h6 ht⟩
theorem append_one (h : One W0 w d st) (n s : ByteArray) (hs : s.size ≤ 281474976710656) {st' : St} {x : Int} (he : St.append st n s.data.toList = (st', x)) :
    Calls Try.prog 17 #[.pointer (some ⟨d, 0, none⟩), .string n, .string s] w fun e w' => e = .returned (.int .i64 x) ∧ One W0 w' d st' := Calls.one h fun _ hF => append_at hF n s hs he
theorem append_two (h : Two W0 w d st d2 st2) (n s : ByteArray) (hs : s.size ≤ 281474976710656) {st' : St} {x : Int} (he : St.append st n s.data.toList = (st', x)) :
    Calls Try.prog 17 #[.pointer (some ⟨d, 0, none⟩), .string n, .string s] w fun e w' => e = .returned (.int .i64 x) ∧ Two W0 w' d st' d2 st2 := Calls.two h fun _ hF => append_at hF n s hs he
theorem sync_one (h : One W0 w d st) (n : ByteArray) {st' : St} {x : Int} (he : St.deed st n (fsync n) = (st', x)) :
    Calls Try.prog 18 #[.pointer (some ⟨d, 0, none⟩), .string n] w fun e w' => e = .returned (.int .i64 x) ∧ One W0 w' d st' := Calls.one h fun _ hF => sync_at hF n he
theorem delete_one (h : One W0 w d st) (n : ByteArray) {st' : St} {x : Int} (he : St.deed st n (fun l => fdel l n) = (st', x)) :
    Calls Try.prog 19 #[.pointer (some ⟨d, 0, none⟩), .string n] w fun e w' => e = .returned (.int .i64 x) ∧ One W0 w' d st' := Calls.one h fun _ hF => delete_at hF n he
theorem rename_one (h : One W0 w d st) (n b : ByteArray) {st' : St} {x : Int} (he : St.deed st n (frename n b) = (st', x)) :
    Calls Try.prog 39 #[.pointer (some ⟨d, 0, none⟩), .string n, .string b] w fun e w' => e = .returned (.int .i64 x) ∧ One W0 w' d st' := Calls.one h fun _ hF => rename_at hF n b he
theorem rename_two (h : Two W0 w d st d2 st2) (n b : ByteArray) {st' : St} {x : Int} (he : St.deed st n (frename n b) = (st', x)) :
    Calls Try.prog 39 #[.pointer (some ⟨d, 0, none⟩), .string n, .string b] w fun e w' => e = .returned (.int .i64 x) ∧ Two W0 w' d st' d2 st2 := Calls.two h fun _ hF => rename_at hF n b he
theorem arm_one (h : One W0 w d st) (a t : Int) (ha : a ≤ 9223372036854775807) :
    Calls Try.prog 37 #[.pointer (some ⟨d, 0, none⟩), .int .i64 a, .int .i64 t] w fun e w' => e = .returned (.tuple #[]) ∧ One W0 w' d { st with after := max a (-1), torn := t } := Calls.one h fun _ hF => arm_at hF a t ha
theorem read_one (h : One W0 w d st) (n : ByteArray) : Calls Try.prog 21 #[.pointer (some ⟨d, 0, none⟩), .string n] w fun e w' =>
    e = .returned (.tuple #[.string (rdText st.files n), .bool (rdThere st.files n)]) ∧ w = w' := by
  obtain ⟨F, h1, h2, h3⟩ := h; exact read_at h1 n
theorem used_one (h : One W0 w d st) : Calls Try.prog 40 #[.pointer (some ⟨d, 0, none⟩)] w fun e w' => e = .returned (.int .i64 (ftotal st.files : Nat)) ∧ One W0 w' d st := by
  have h0 := h
  obtain ⟨F, h1, h2, h3⟩ := h
  exact (used_at h1).mono fun e w' hx => ⟨hx.1, h0.below hx.2⟩
theorem used_two (h : Two W0 w d st d2 st2) : Calls Try.prog 40 #[.pointer (some ⟨d, 0, none⟩)] w fun e w' => e = .returned (.int .i64 (ftotal st.files : Nat)) ∧ Two W0 w' d st d2 st2 := by
  have h0 := h
  obtain ⟨F, h1, h2, h3⟩ := h.fst
  exact (used_at h1).mono fun e w' hx => ⟨hx.1, h0.below hx.2⟩
theorem crashed_one (h : One W0 w d st) : Calls Try.prog 38 #[.pointer (some ⟨d, 0, none⟩)] w fun e w' => e = .returned (.bool st.dead) ∧ w = w' := by
  obtain ⟨F, h1, h2, h3⟩ := h; exact crashed_at h1
/-- A new disk, whatever is there. -/
theorem new_one (hb : Below W0.heap.size W0 w) (room : Int) (h0 : 0 ≤ room) (h1 : room ≤ 1048576) : Calls Try.prog 16 #[.int .i64 room] w fun e w' => ∃ d, e = .returned (.tuple #[.pointer (some ⟨d, 0, none⟩), .int .i64 0]) ∧ One W0 w' d ⟨[], room, -1, 0, false⟩ := by
  refine (new_at w room h0 h1).mono ?_
  rintro e w' ⟨d, rfl, ⟨F, hA, hl⟩, hbl⟩
  exact ⟨d, rfl, F, hA, fun k hk => Nat.le_trans hb.size (hl k hk), hb.trans (hbl.mono hb.size)⟩
set_option maxRecDepth 100000 in
theorem new_bad (w : World) (room : Int) (h0 : room < 0) : Calls Try.prog 16 #[.int .i64 room] w fun e w' => e = .returned (.tuple #[.pointer none, .int .i64 1]) ∧ w = w' := by
  go_enter Try.func16, Try.ntmps16
  go_wp2_with fail
  go_ret2
  exact ⟨rfl, rfl⟩
theorem lost_two (h : One W0 w d st) (keep : Int) : Calls Try.prog 20 #[.pointer (some ⟨d, 0, none⟩), .int .i64 keep] w fun e w' => ∃ d2, e = .returned (.pointer (some ⟨d2, 0, none⟩)) ∧
    Two W0 w' d st d2 ⟨st.files.map (flost keep), st.room, -1, 0, false⟩ := by
  obtain ⟨F, h1, h2, h3⟩ := h
  refine (lost_at h1 keep).mono ?_
  rintro e w' ⟨d2, rfl, ⟨F2, k1, k2⟩, k3⟩
  refine ⟨d2, rfl, F, F2, h1.kept fun k hk => k3.block k (h1.lt hk), k1, fun k a b => ?_, h2, fun k hk => Nat.le_trans h3.size (k2 k hk), h3.trans (k3.mono h3.size)⟩
  have := h1.lt a; have := k2 k b; omega
end
end Go.Proofs.Ytmjeanbbhacnaaa

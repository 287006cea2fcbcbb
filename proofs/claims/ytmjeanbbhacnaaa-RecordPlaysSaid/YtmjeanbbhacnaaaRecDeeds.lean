/- The walks of Add, swap, Mend, Replace, All, Whole. The bounds: a name has at most 1000 bytes. -/
import Derived.Test.YtmjeanbbhacnaaaRecUntil
namespace Go.Proofs.Ytmjeanbbhacnaaa
open Go.RowKit
attribute [local go_sem ↓] Go.wp_at_zero Go.wp_at_succ
/-! ### deeds, as functions of the state -/
def St.until : List (St → St × Int) → St → St × Int
  | [], st => (st, 0)
  | g :: r, st => if (g st).2 = 0 then St.until r (g st).1 else g st
def newName (n : ByteArray) : ByteArray := n ++ ⟨#[46, 110, 101, 119]⟩
def St.sync (n : ByteArray) (st : St) : St × Int := St.deed st n (fsync n)
def St.del (n : ByteArray) (st : St) : St × Int := St.deed st n (fun l => fdel l n)
def St.ren (n b : ByteArray) (st : St) : St × Int := St.deed st n (frename n b)
def St.app (n : ByteArray) (s : List UInt8) (st : St) : St × Int := St.append st n s
def St.clean (n : ByteArray) (st : St) : St × Int := if rdThere st.files (newName n) then St.del (newName n) st else (st, 0)
def St.swap (n : ByteArray) (s : List UInt8) (st : St) : St × Int :=
  if s = [] then St.until [St.clean n, St.del n] st else St.until [St.clean n, St.app (newName n) s, St.sync (newName n), St.ren (newName n) n] st
def St.add (n : ByteArray) (s : List UInt8) (st : St) : St × Int :=
  if 65536 < s.length then (st, 3) else St.until [St.app n (frameL s), St.sync n] st
def St.replace (n : ByteArray) (s : List UInt8) (st : St) : St × Int := if 65536 < s.length then (st, 3) else St.swap n (frameL s) st
def rdL (st : St) (n : ByteArray) : List UInt8 := (rdText st.files n).data.toList
def St.mend (n : ByteArray) (st : St) : St × Int :=
  if fsize (framesL (rdL st n)) < (rdL st n).length then St.swap n ((rdL st n).take (fsize (framesL (rdL st n)))) st else (st, 0)
def wholeL (l : List UInt8) : Option (List UInt8) := match framesL l with
  | [t] => if fsize [t] = l.length then some t else none
  | _ => none
/-! ### a chain of deeds in memory -/
theorem KeepT.refl (w : World) : KeepT w w := fun _ _ _ _ _ _ _ h => h
theorem KeepT.trans {a b c : World} (h : KeepT a b) (k : KeepT b c) : KeepT a c := fun b row t fr h1 h2 h3 hb => k b row t fr h1 h2 h3 (h b row t fr h1 h2 h3 hb)
theorem KeepT.below {w w' : World} (h : Below w.heap.size w w') : KeepT w w' := fun b _ _ _ _ _ _ hb => (h.block b (lt_of_block hb)).trans hb
theorem Turns.trans {w w1 w2 : World} {d : Nat} {F : Nat → Prop} {s1 s2 : St} (h : Turns w d F s1 w1) (k : ∀ F1, At w1 d s1 F1 → Turns w1 d F1 s2 w2) : Turns w d F s2 w2 := by
  obtain ⟨F1, h1, h2⟩ := h
  obtain ⟨F2, k1, k2⟩ := k F1 h1
  exact ⟨F2, k1, h2.trans k2⟩
theorem Turns.refl {w : World} {d : Nat} {F : Nat → Prop} {st : St} (h : At w d st F) : Turns w d F st w := ⟨F, h, Eff.refl _ _⟩
theorem Turns.of_below {w w1 : World} {d : Nat} {F : Nat → Prop} {st : St} (h : At w d st F) (hb : Below w.heap.size w w1) : Turns w d F st w1 :=
  ⟨F, h.kept fun k hk => hb.block k (h.lt hk), Eff.below hb⟩
/-- In whatever world keeps w0's boxes, f does g. -/
def Does (w0 : World) (d : Nat) (f : FuncId) (cap : Array Value) (g : St → St × Int) : Prop :=
  ∀ w st F, KeepT w0 w → At w d st F → Calls Try.prog f cap w fun e w' => e = .returned (.int .i64 (g st).2) ∧ Turns w d F (g st).1 w'
abbrev Deed := FuncId × Array Value × (St → St × Int)
theorem RunAll.no (lb : Nat) (row : Array Value) (Q : Int → World → Prop) : ∀ L : List (FuncId × Array Value), (∀ x ∈ L, ∀ args w, (callFunc x.1 args).run Try.prog w = .ok (.enter x.1 args) w) → RunAll lb row L (fun _ => False) Q
  | [], _ => fun _ h => h.elim
  | x :: r, h => ⟨h x List.mem_cons_self, fun _ h => h.elim, fun _ => False, fun _ h => h.elim, RunAll.no lb row Q r fun y hy => h y (List.mem_cons_of_mem _ hy)⟩
theorem RunAll.of (w0 : World) (d : Nat) (F : Nat → Prop) (st0 : St) (h0 : At w0 d st0 F) (lb : Nat) (row : Array Value) (hrow : w0.heap[lb]? = some (.cells row 75 (0, 0))) :
    ∀ (L : List Deed), (∀ x ∈ L, (∀ args w, (callFunc x.1 args).run Try.prog w = .ok (.enter x.1 args) w) ∧ Does w0 d x.1 x.2.1 x.2.2) → ∀ st,
      RunAll lb row (L.map fun x => (x.1, x.2.1)) (fun w => Turns w0 d F st w) (fun x w' => x = (St.until (L.map (·.2.2)) st).2 ∧ Turns w0 d F (St.until (L.map (·.2.2)) st).1 w')
  | [], _, st => fun w h => ⟨rfl, h⟩
  | x :: r, h, st => by
    have hx := h x List.mem_cons_self
    have hr := fun y hy => h y (List.mem_cons_of_mem x hy)
    refine ⟨hx.1, fun w hw => Turns.keepT h0 hw _ _ _ _ (by decide) (by decide) (by decide) hrow, ?_⟩
    by_cases hz : (x.2.2 st).2 = 0
    · refine ⟨fun w => Turns w0 d F (x.2.2 st).1 w, fun w hw => ?_, ?_⟩
      · obtain ⟨F1, hA, hE⟩ := id hw
        refine (hx.2 w st F1 (Turns.keepT h0 hw) hA).mono ?_
        rintro e w' ⟨rfl, ht⟩
        refine ⟨_, rfl, fun hn => absurd hz hn, fun _ => ?_⟩
        obtain ⟨F2, k1, k2⟩ := ht
        exact ⟨F2, k1, hE.trans k2⟩
      · have := RunAll.of w0 d F st0 h0 lb row hrow r hr (x.2.2 st).1
        have e1 : St.until ((x :: r).map (·.2.2)) st = St.until (r.map (·.2.2)) (x.2.2 st).1 := by
          simp only [List.map_cons, St.until, hz, if_true]
        rw [e1]
        exact this
    · refine ⟨fun _ => False, fun w hw => ?_, RunAll.no _ _ _ _ fun y hy => ?_⟩
      · obtain ⟨F1, hA, hE⟩ := id hw
        refine (hx.2 w st F1 (Turns.keepT h0 hw) hA).mono ?_
        rintro e w' ⟨rfl, ht⟩
        have e1 : St.until ((x :: r).map (·.2.2)) st = x.2.2 st := by
          simp only [List.map_cons, St.until, hz, if_false]
        rw [e1]
        refine ⟨_, rfl, fun _ => ⟨rfl, ?_⟩, fun hn => absurd hn hz⟩
        obtain ⟨F2, k1, k2⟩ := ht
        exact ⟨F2, k1, hE.trans k2⟩
      · obtain ⟨z, hz1, rfl⟩ := List.mem_map.1 hy
        exact (hr z hz1).1
theorem until_at {w0 : World} {d : Nat} {F : Nat → Prop} {st : St} (h0 : At w0 d st F) (lb : Nat) (L : List Deed) (hrow : w0.heap[lb]? = some (.cells (rowOf (L.map fun x => (x.1, x.2.1))) 75 (0, 0)))
    (hL : ∀ x ∈ L, (∀ args w, (callFunc x.1 args).run Try.prog w = .ok (.enter x.1 args) w) ∧ Does w0 d x.1 x.2.1 x.2.2) (hn : L.length ≤ 1000) (cap : Nat) :
    Calls Try.prog 68 #[.slice (some ⟨lb, 0, none⟩) L.length cap] w0 fun e w' => e = .returned (.int .i64 (St.until (L.map (·.2.2)) st).2) ∧ Turns w0 d F (St.until (L.map (·.2.2)) st).1 w' := by
  have h := until_any (L.map fun x => (x.1, x.2.1)) lb cap _ _ (RunAll.of w0 d F st h0 lb _ hrow L hL st) w0 (Turns.refl h0) (by rw [List.length_map]; omega)
  rw [List.length_map] at h
  refine h.mono ?_
  rintro e w' ⟨x, rfl, hx, ht⟩
  exact ⟨by rw [hx], ht⟩
/-! ### the closures -/
section
variable {w0 : World} {d : Nat} {b1 b2 b3 : Nat} {n s : ByteArray}
  (o1 : w0.heap[b1]? = some (.cells #[.pointer (some ⟨d, 0, none⟩)] 23 (0, 0))) (o2 : w0.heap[b2]? = some (.cells #[.string n] 9 (0, 0))) (o3 : w0.heap[b3]? = some (.cells #[.string s] 9 (0, 0)))
theorem call69 : ∀ args w, (callFunc 69 args).run Try.prog w = .ok (.enter 69 args) w := fun _ _ => by kernel_rfl
theorem call70 : ∀ args w, (callFunc 70 args).run Try.prog w = .ok (.enter 70 args) w := fun _ _ => by kernel_rfl
theorem call85 : ∀ args w, (callFunc 85 args).run Try.prog w = .ok (.enter 85 args) w := fun _ _ => by kernel_rfl
theorem call86 : ∀ args w, (callFunc 86 args).run Try.prog w = .ok (.enter 86 args) w := fun _ _ => by kernel_rfl
theorem call87 : ∀ args w, (callFunc 87 args).run Try.prog w = .ok (.enter 87 args) w := fun _ _ => by kernel_rfl
theorem call88 : ∀ args w, (callFunc 88 args).run Try.prog w = .ok (.enter 88 args) w := fun _ _ => by kernel_rfl
theorem call89 : ∀ args w, (callFunc 89 args).run Try.prog w = .ok (.enter 89 args) w := fun _ _ => by kernel_rfl
include o1 o2
theorem boxes_in {w : World} (hk : KeepT w0 w) : w.cell? ⟨b1, 0, none⟩ = some (.pointer (some ⟨d, 0, none⟩)) ∧ w.cell? ⟨b2, 0, none⟩ = some (.string n) :=
  ⟨cell_of_one (hk _ _ _ _ (by decide) (by decide) (by decide) o1), cell_of_one (hk _ _ _ _ (by decide) (by decide) (by decide) o2)⟩
include o3 in
set_option maxRecDepth 100000 in
theorem does_add1 (hs : s.size ≤ 281474976710656) : Does w0 d 69 #[.pointer (some ⟨b1, 0, none⟩), .pointer (some ⟨b2, 0, none⟩), .pointer (some ⟨b3, 0, none⟩)] (St.app n s.data.toList) := by
  intro w st F hk hA
  obtain ⟨c1, c2⟩ := boxes_in o1 o2 hk
  have c3 := cell_of_one (hk _ _ _ _ (by decide) (by decide) (by decide) o3)
  have hcall := append_at hA n s hs (st' := (St.app n s.data.toList st).1) (x := (St.app n s.data.toList st).2) rfl
  obtain ⟨res, hres⟩ : ∃ r, r = St.app n s.data.toList st := ⟨_, rfl⟩
  rw [← hres] at hcall ⊢
  have H := Lib.hid hcall
  clear hcall hres hA hk
  go_enter Try.func69, Try.ntmps69
  go_wp2_with fail
  refine H.out.mono ?_
  rintro e w1 ⟨rfl, ht⟩
  have Ht := Lib.hid ht
  clear ht
  go_wp2_with fail
  go_ret
  exact ⟨rfl, Ht.out⟩
set_option maxRecDepth 100000 in
theorem does_add2 : Does w0 d 70 #[.pointer (some ⟨b1, 0, none⟩), .pointer (some ⟨b2, 0, none⟩)] (St.sync n) := by
  intro w st F hk hA
  obtain ⟨c1, c2⟩ := boxes_in o1 o2 hk
  have hcall := sync_at hA n (st' := (St.sync n st).1) (x := (St.sync n st).2) rfl
  obtain ⟨res, hres⟩ : ∃ r, r = St.sync n st := ⟨_, rfl⟩
  rw [← hres] at hcall ⊢
  have H := Lib.hid hcall
  clear hcall hres hA hk
  go_enter Try.func70, Try.ntmps70
  go_wp2_with fail
  refine H.out.mono ?_
  rintro e w1 ⟨rfl, ht⟩
  have Ht := Lib.hid ht
  clear ht
  go_wp2_with fail
  go_ret
  exact ⟨rfl, Ht.out⟩
set_option maxRecDepth 100000 in
theorem does_swap2 : Does w0 d 86 #[.pointer (some ⟨b1, 0, none⟩), .pointer (some ⟨b2, 0, none⟩)] (St.del n) := by
  intro w st F hk hA
  obtain ⟨c1, c2⟩ := boxes_in o1 o2 hk
  have hcall := delete_at hA n (st' := (St.del n st).1) (x := (St.del n st).2) rfl
  obtain ⟨res, hres⟩ : ∃ r, r = St.del n st := ⟨_, rfl⟩
  rw [← hres] at hcall ⊢
  have H := Lib.hid hcall
  clear hcall hres hA hk
  go_enter Try.func86, Try.ntmps86
  go_wp2_with fail
  refine H.out.mono ?_
  rintro e w1 ⟨rfl, ht⟩
  have Ht := Lib.hid ht
  clear ht
  go_wp2_with fail
  go_ret
  exact ⟨rfl, Ht.out⟩
include o3 in
set_option maxRecDepth 100000 in
theorem does_swap3 (hn : (n.size : Int) ≤ 1000) (hs : s.size ≤ 281474976710656) : Does w0 d 87 #[.pointer (some ⟨b1, 0, none⟩), .pointer (some ⟨b2, 0, none⟩), .pointer (some ⟨b3, 0, none⟩)] (St.app (newName n) s.data.toList) := by
  intro w st F hk hA
  obtain ⟨c1, c2⟩ := boxes_in o1 o2 hk
  have c3 := cell_of_one (hk _ _ _ _ (by decide) (by decide) (by decide) o3)
  have hcall := append_at hA (newName n) s hs (st' := (St.app (newName n) s.data.toList st).1) (x := (St.app (newName n) s.data.toList st).2) rfl
  obtain ⟨res, hres⟩ : ∃ r, r = St.app (newName n) s.data.toList st := ⟨_, rfl⟩
  rw [← hres] at hcall ⊢
  unfold newName at hcall
  have H := Lib.hid hcall
  clear hcall hres hA hk
  go_enter Try.func87, Try.ntmps87
  go_wp2_with fail
  refine H.out.mono ?_
  rintro e w1 ⟨rfl, ht⟩
  have Ht := Lib.hid ht
  clear ht
  go_wp2_with fail
  go_ret
  exact ⟨rfl, Ht.out⟩
set_option maxRecDepth 100000 in
theorem does_swap4 (hn : (n.size : Int) ≤ 1000) : Does w0 d 88 #[.pointer (some ⟨b1, 0, none⟩), .pointer (some ⟨b2, 0, none⟩)] (St.sync (newName n)) := by
  intro w st F hk hA
  obtain ⟨c1, c2⟩ := boxes_in o1 o2 hk
  have hcall := sync_at hA (newName n) (st' := (St.sync (newName n) st).1) (x := (St.sync (newName n) st).2) rfl
  obtain ⟨res, hres⟩ : ∃ r, r = St.sync (newName n) st := ⟨_, rfl⟩
  rw [← hres] at hcall ⊢
  unfold newName at hcall
  have H := Lib.hid hcall
  clear hcall hres hA hk
  go_enter Try.func88, Try.ntmps88
  go_wp2_with fail
  refine H.out.mono ?_
  rintro e w1 ⟨rfl, ht⟩
  have Ht := Lib.hid ht
  clear ht
  go_wp2_with fail
  go_ret
  exact ⟨rfl, Ht.out⟩
set_option maxRecDepth 100000 in
theorem does_swap5 (hn : (n.size : Int) ≤ 1000) : Does w0 d 89 #[.pointer (some ⟨b1, 0, none⟩), .pointer (some ⟨b2, 0, none⟩)] (St.ren (newName n) n) := by
  intro w st F hk hA
  obtain ⟨c1, c2⟩ := boxes_in o1 o2 hk
  have hcall := rename_at hA (newName n) n (st' := (St.ren (newName n) n st).1) (x := (St.ren (newName n) n st).2) rfl
  obtain ⟨res, hres⟩ : ∃ r, r = St.ren (newName n) n st := ⟨_, rfl⟩
  rw [← hres] at hcall ⊢
  unfold newName at hcall
  have H := Lib.hid hcall
  clear hcall hres hA hk
  go_enter Try.func89, Try.ntmps89
  go_wp2_with fail
  refine H.out.mono ?_
  rintro e w1 ⟨rfl, ht⟩
  have Ht := Lib.hid ht
  clear ht
  go_wp2_with fail
  go_ret
  exact ⟨rfl, Ht.out⟩
set_option maxRecDepth 100000 in
theorem does_swap1 (hn : (n.size : Int) ≤ 1000) : Does w0 d 85 #[.pointer (some ⟨b1, 0, none⟩), .pointer (some ⟨b2, 0, none⟩)] (St.clean n) := by
  intro w st F hk hA
  obtain ⟨c1, c2⟩ := boxes_in o1 o2 hk
  have hread := read_at hA (newName n)
  obtain ⟨X, hX⟩ : ∃ X, X = rdText st.files (newName n) := ⟨_, rfl⟩
  rw [← hX] at hread
  clear hX
  unfold St.clean
  by_cases hb : rdThere st.files (newName n) = true
  · rw [if_pos hb]
    rw [hb] at hread
    have hcall := delete_at hA (newName n) (st' := (St.del (newName n) st).1) (x := (St.del (newName n) st).2) rfl
    obtain ⟨res, hres⟩ : ∃ r, r = St.del (newName n) st := ⟨_, rfl⟩
    rw [← hres] at hcall ⊢
    unfold newName at hcall hread
    have H := Lib.hid (And.intro hread hcall)
    clear hcall hres hA hk hread hb
    go_enter Try.func85, Try.ntmps85
    go_wp2_with fail
    refine H.out.1.mono ?_
    rintro e w1 ⟨rfl, rfl⟩
    go_wp2_with fail
    refine H.out.2.mono ?_
    rintro e w1 ⟨rfl, ht⟩
    have Ht := Lib.hid ht
    clear ht
    go_wp2_with fail
    go_ret
    exact ⟨rfl, Ht.out⟩
  · rw [if_neg hb]
    have hb' : rdThere st.files (newName n) = false := by simpa using hb
    rw [hb'] at hread
    unfold newName at hread
    have H := Lib.hid hread
    have Ht := Lib.hid (Turns.refl hA)
    clear hA hk hread hb hb'
    go_enter Try.func85, Try.ntmps85
    go_wp2_with fail
    refine H.out.mono ?_
    rintro e w1 ⟨rfl, rfl⟩
    go_wp2_with fail
    go_ret
    exact ⟨rfl, Ht.out⟩
end
end Go.Proofs.Ytmjeanbbhacnaaa

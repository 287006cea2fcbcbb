/- The walks of Addr, Slot, Made, HasAddr, HasSlot, Gone, Refund, Total, Mark, Back of the reference of chapter 11. The bound: at most 10^6 changes. -/
import Derived.Test.YtgjaennilkhejaaWRefHas
namespace Go.Proofs.Ytgjaennilkhejaa
open Go.RowKit
attribute [local go_sem ↓] Go.wp_at_zero Go.wp_at_succ
theorem RTurns.below {w w' : World} {x : Nat} {M : List Ch} {F : Nat → Prop} (h : RAt w x M F) (hb : Below w.heap.size w w') : RTurns w x F M w' := ⟨F, h.below hb, Eff.below hb⟩
theorem RTurns.after {w w1 w2 : World} {x : Nat} {M : List Ch} {F : Nat → Prop} (h : RTurns w x F M w1) (hb : Below w1.heap.size w1 w2) : RTurns w x F M w2 := by
  obtain ⟨F', h1, h2⟩ := h
  exact ⟨F', h1.below hb, h2.trans (Eff.below hb)⟩
theorem RTurns.before {w w1 w2 : World} {x : Nat} {M : List Ch} {F : Nat → Prop} (hb : Below w.heap.size w w1) (h : RTurns w1 x F M w2) : RTurns w x F M w2 := by
  obtain ⟨F', h1, h2⟩ := h
  exact ⟨F', h1, (Eff.below hb).trans h2⟩
section
variable {w : World} {x : Nat} {rb : Option Nat} {cap : Nat} {rs : List R}
theorem RefC.at (h : RefC w x rb cap rs) : RAt w x (rabs rs) (rfoot x rb rs) := ⟨rb, cap, rs, h, rfl, rfl⟩
theorem ronce_c (h : RefC w x rb cap rs) (f : Fin 4) (a : ByteArray) (k : W4) (hk : f = 1 ∨ k = wz) (hlen : rs.length < 1000000) :
    Calls Try.prog 50 #[.pointer (some ⟨x, 0, none⟩), .int .i64 (kd f), .string a, .agg #[.int .u64 k.a, .int .u64 k.b, .int .u64 k.c, .int .u64 k.d]] w fun e w' =>
      e = .returned (.bool (hasK f (keyV f a k) (rabs rs))) ∧ RTurns w x (rfoot x rb rs) (noteL f (keyV f a k) (rabs rs)) w' := by
  by_cases hin : keyV f a k ∈ keysOf f (rabs rs)
  · rw [hasK_true hin, noteL_had hin]
    exact (ronce_had h f a k hk hlen (hasK_true hin)).mono fun e w' ⟨h1, h2⟩ => ⟨h1, .below h.at h2⟩
  · rw [hasK_false hin, noteL_new hin]
    exact ronce_new h f a k hk hlen (hasK_false hin)
set_option maxRecDepth 100000 in
theorem raddr_c (h : RefC w x rb cap rs) (a : ByteArray) (hlen : rs.length < 1000000) :
    Calls Try.prog 37 #[.pointer (some ⟨x, 0, none⟩), .string a] w fun e w' => e = .returned (.bool (hasK 0 (.string a) (rabs rs))) ∧ RTurns w x (rfoot x rb rs) (noteL 0 (.string a) (rabs rs)) w' := by
  have hc : Calls Try.prog 50 #[.pointer (some ⟨x, 0, none⟩), .int .i64 1, .string a, .agg #[.int .u64 0, .int .u64 0, .int .u64 0, .int .u64 0]] w fun e w' =>
    e = .returned (.bool (hasK 0 (.string a) (rabs rs))) ∧ RTurns w x (rfoot x rb rs) (noteL 0 (.string a) (rabs rs)) w' := ronce_c h 0 a wz (.inr rfl) hlen
  obtain ⟨B, hB⟩ : ∃ B, B = hasK 0 (.string a) (rabs rs) := ⟨_, rfl⟩
  rw [← hB] at hc ⊢
  have Hc := Lib.hid hc
  clear h hlen hc hB
  go_enter Try.func37, Try.ntmps37
  go_wp2_with fail
  refine Hc.out.mono ?_
  rintro e w1 ⟨rfl, hb⟩
  have Hb := Lib.hid hb
  clear hb
  go_wp2_with fail
  go_ret
  exact ⟨rfl, Hb.out⟩
set_option maxRecDepth 100000 in
theorem rmade_c (h : RefC w x rb cap rs) (a : ByteArray) (hlen : rs.length < 1000000) :
    Calls Try.prog 40 #[.pointer (some ⟨x, 0, none⟩), .string a] w fun e w' => e = .returned (.bool (hasK 2 (.string a) (rabs rs))) ∧ RTurns w x (rfoot x rb rs) (noteL 2 (.string a) (rabs rs)) w' := by
  have hc : Calls Try.prog 50 #[.pointer (some ⟨x, 0, none⟩), .int .i64 3, .string a, .agg #[.int .u64 0, .int .u64 0, .int .u64 0, .int .u64 0]] w fun e w' =>
    e = .returned (.bool (hasK 2 (.string a) (rabs rs))) ∧ RTurns w x (rfoot x rb rs) (noteL 2 (.string a) (rabs rs)) w' := ronce_c h 2 a wz (.inr rfl) hlen
  obtain ⟨B, hB⟩ : ∃ B, B = hasK 2 (.string a) (rabs rs) := ⟨_, rfl⟩
  rw [← hB] at hc ⊢
  have Hc := Lib.hid hc
  clear h hlen hc hB
  go_enter Try.func40, Try.ntmps40
  go_wp2_with fail
  refine Hc.out.mono ?_
  rintro e w1 ⟨rfl, hb⟩
  have Hb := Lib.hid hb
  clear hb
  go_wp2_with fail
  go_ret
  exact ⟨rfl, Hb.out⟩
set_option maxRecDepth 100000 in
theorem rgone_c (h : RefC w x rb cap rs) (a : ByteArray) (hlen : rs.length < 1000000) :
    Calls Try.prog 43 #[.pointer (some ⟨x, 0, none⟩), .string a] w fun e w' => e = .returned (.tuple #[]) ∧ RTurns w x (rfoot x rb rs) (noteL 3 (.string a) (rabs rs)) w' := by
  have hc : Calls Try.prog 50 #[.pointer (some ⟨x, 0, none⟩), .int .i64 6, .string a, .agg #[.int .u64 0, .int .u64 0, .int .u64 0, .int .u64 0]] w fun e w' =>
    e = .returned (.bool (hasK 3 (.string a) (rabs rs))) ∧ RTurns w x (rfoot x rb rs) (noteL 3 (.string a) (rabs rs)) w' := ronce_c h 3 a wz (.inr rfl) hlen
  obtain ⟨B, hB⟩ : ∃ B, B = hasK 3 (.string a) (rabs rs) := ⟨_, rfl⟩
  rw [← hB] at hc
  have Hc := Lib.hid hc
  clear h hlen hc hB
  go_enter Try.func43, Try.ntmps43
  go_wp2_with fail
  refine Hc.out.mono ?_
  rintro e w1 ⟨rfl, hb⟩
  have Hb := Lib.hid hb
  clear hb
  go_wp2_with fail
  go_end0
  exact ⟨rfl, Hb.out⟩
set_option maxRecDepth 100000 in
theorem rslot_c (h : RefC w x rb cap rs) (a : ByteArray) (k : W4) (hlen : rs.length < 1000000) :
    Calls Try.prog 39 #[.pointer (some ⟨x, 0, none⟩), .string a, .agg #[.int .u64 k.a, .int .u64 k.b, .int .u64 k.c, .int .u64 k.d]] w fun e w' => e = .returned (.bool (hasK 1 (slotV a k) (rabs rs))) ∧ RTurns w x (rfoot x rb rs) (noteL 1 (slotV a k) (rabs rs)) w' := by
  obtain ⟨W1, hW1⟩ : ∃ W1, W1 = w.alloc (.cells #[.int .u64 k.a, .int .u64 k.b, .int .u64 k.c, .int .u64 k.d] 24 (0, 0)) := ⟨_, rfl⟩
  have hb1 : Below w.heap.size w W1 := by rw [hW1]; exact (Below.refl _ _).alloc (Nat.le_refl _) _
  have o1 : W1.heap[w.heap.size]? = some (.cells #[.int .u64 k.a, .int .u64 k.b, .int .u64 k.c, .int .u64 k.d] 24 (0, 0)) := by rw [hW1]; exact heap_alloc_new _ _
  have hc : ∀ W, Below W1.heap.size W1 W → Calls Try.prog 50 #[.pointer (some ⟨x, 0, none⟩), .int .i64 2, .string a, .agg #[.int .u64 k.a, .int .u64 k.b, .int .u64 k.c, .int .u64 k.d]] W fun e w' =>
    e = .returned (.bool (hasK 1 (slotV a k) (rabs rs))) ∧ RTurns W x (rfoot x rb rs) (noteL 1 (slotV a k) (rabs rs)) w' := fun W hb => ronce_c (h.below (hb1.trans (hb.mono hb1.size))) 1 a k (.inl rfl) hlen
  obtain ⟨B, hB⟩ : ∃ B, B = hasK 1 (slotV a k) (rabs rs) := ⟨_, rfl⟩
  rw [← hB] at hc ⊢
  have hc1 := hc W1 (Below.refl _ _)
  have c0 : W1.cell? ⟨w.heap.size, 0, none⟩ = some (.int .u64 k.a) := by rw [cell_of_row _ _ _ _ _ _ o1]; rfl
  have c1 : W1.cell? ⟨w.heap.size, 1, none⟩ = some (.int .u64 k.b) := by rw [cell_of_row _ _ _ _ _ _ o1]; rfl
  have c2 : W1.cell? ⟨w.heap.size, 2, none⟩ = some (.int .u64 k.c) := by rw [cell_of_row _ _ _ _ _ _ o1]; rfl
  have c3 : W1.cell? ⟨w.heap.size, 3, none⟩ = some (.int .u64 k.d) := by rw [cell_of_row _ _ _ _ _ _ o1]; rfl
  have Hc := Lib.hid (And.intro hc1 hb1)
  have HW1 := Lib.hid hW1
  clear h hlen hc hc1 hB hb1 o1 hW1
  go_enter Try.func39, Try.ntmps39
  go_upto_region 1 with fail
  rw [← HW1.out]
  go_wp2_with fail
  refine Hc.out.1.mono ?_
  rintro e w1 ⟨rfl, hb⟩
  have Hb := Lib.hid hb
  clear hb
  go_wp2_with fail
  go_ret
  exact ⟨rfl, .before Hc.out.2 Hb.out⟩
set_option maxRecDepth 100000 in
theorem rhasAddr_c (h : RefC w x rb cap rs) (a : ByteArray) (hlen : rs.length < 1000000) :
    Calls Try.prog 36 #[.pointer (some ⟨x, 0, none⟩), .string a] w fun e w' => e = .returned (.bool (hasK 0 (.string a) (rabs rs))) ∧ Below w.heap.size w w' := by
  have hc : Calls Try.prog 49 #[.pointer (some ⟨x, 0, none⟩), .int .i64 1, .string a, .agg #[.int .u64 0, .int .u64 0, .int .u64 0, .int .u64 0]] w fun e w' =>
    e = .returned (.bool (hasK 0 (.string a) (rabs rs))) ∧ Below w.heap.size w w' := rhas_c h 0 a wz (.inr rfl) hlen
  obtain ⟨B, hB⟩ : ∃ B, B = hasK 0 (.string a) (rabs rs) := ⟨_, rfl⟩
  rw [← hB] at hc ⊢
  have Hc := Lib.hid hc
  clear h hlen hc hB
  go_enter Try.func36, Try.ntmps36
  go_wp2_with fail
  refine Hc.out.mono ?_
  rintro e w1 ⟨rfl, hb⟩
  have Hb := Lib.hid hb
  clear hb
  go_wp2_with fail
  go_ret
  exact ⟨rfl, Hb.out⟩
set_option maxRecDepth 100000 in
theorem rhasSlot_c (h : RefC w x rb cap rs) (a : ByteArray) (k : W4) (hlen : rs.length < 1000000) :
    Calls Try.prog 38 #[.pointer (some ⟨x, 0, none⟩), .string a, .agg #[.int .u64 k.a, .int .u64 k.b, .int .u64 k.c, .int .u64 k.d]] w fun e w' => e = .returned (.bool (hasK 1 (slotV a k) (rabs rs))) ∧ Below w.heap.size w w' := by
  obtain ⟨W1, hW1⟩ : ∃ W1, W1 = w.alloc (.cells #[.int .u64 k.a, .int .u64 k.b, .int .u64 k.c, .int .u64 k.d] 24 (0, 0)) := ⟨_, rfl⟩
  have hb1 : Below w.heap.size w W1 := by rw [hW1]; exact (Below.refl _ _).alloc (Nat.le_refl _) _
  have o1 : W1.heap[w.heap.size]? = some (.cells #[.int .u64 k.a, .int .u64 k.b, .int .u64 k.c, .int .u64 k.d] 24 (0, 0)) := by rw [hW1]; exact heap_alloc_new _ _
  have hc : Calls Try.prog 49 #[.pointer (some ⟨x, 0, none⟩), .int .i64 2, .string a, .agg #[.int .u64 k.a, .int .u64 k.b, .int .u64 k.c, .int .u64 k.d]] W1 fun e w' =>
    e = .returned (.bool (hasK 1 (slotV a k) (rabs rs))) ∧ Below W1.heap.size W1 w' := rhas_c (h.below hb1) 1 a k (.inl rfl) hlen
  obtain ⟨B, hB⟩ : ∃ B, B = hasK 1 (slotV a k) (rabs rs) := ⟨_, rfl⟩
  rw [← hB] at hc ⊢
  have c0 : W1.cell? ⟨w.heap.size, 0, none⟩ = some (.int .u64 k.a) := by rw [cell_of_row _ _ _ _ _ _ o1]; rfl
  have c1 : W1.cell? ⟨w.heap.size, 1, none⟩ = some (.int .u64 k.b) := by rw [cell_of_row _ _ _ _ _ _ o1]; rfl
  have c2 : W1.cell? ⟨w.heap.size, 2, none⟩ = some (.int .u64 k.c) := by rw [cell_of_row _ _ _ _ _ _ o1]; rfl
  have c3 : W1.cell? ⟨w.heap.size, 3, none⟩ = some (.int .u64 k.d) := by rw [cell_of_row _ _ _ _ _ _ o1]; rfl
  have Hc := Lib.hid (And.intro hc hb1)
  have HW1 := Lib.hid hW1
  clear h hlen hc hB hb1 o1 hW1
  go_enter Try.func38, Try.ntmps38
  go_upto_region 1 with fail
  rw [← HW1.out]
  go_wp2_with fail
  refine Hc.out.1.mono ?_
  rintro e w1 ⟨rfl, hb⟩
  have Hb := Lib.hid hb
  clear hb
  go_wp2_with fail
  go_ret
  exact ⟨rfl, Hc.out.2.trans (Hb.out.mono Hc.out.2.size)⟩
set_option maxRecDepth 100000 in
theorem rmark_c (h : RefC w x rb cap rs) : Calls Try.prog 28 #[.pointer (some ⟨x, 0, none⟩)] w fun e w' => e = .returned (.int .i64 (rs.length : Nat)) ∧ w = w' := by
  have c0 := h.cell0
  obtain ⟨n, hn⟩ : ∃ n, n = rs.length := ⟨_, rfl⟩
  obtain ⟨ra, hra⟩ : ∃ ra : Option Addr, ra = rb.map fun b => ⟨b, 0, none⟩ := ⟨_, rfl⟩
  rw [← hra, ← hn] at c0
  rw [← hn]
  clear h hn hra
  go_enter Try.func28, Try.ntmps28
  go_wp2_with fail
  go_ret
  exact ⟨rfl, rfl⟩
set_option maxRecDepth 100000 in
theorem rback_no (h : RefC w x rb cap rs) (m : Int) (hm : m < 0 ∨ (rs.length : Int) < m) : Calls Try.prog 44 #[.pointer (some ⟨x, 0, none⟩), .int .i64 m] w fun e w' => e = .returned (.bool false) ∧ w = w' := by
  have c0 := h.cell0
  obtain ⟨n, hn⟩ : ∃ n, n = rs.length := ⟨_, rfl⟩
  obtain ⟨ra, hra⟩ : ∃ ra : Option Addr, ra = rb.map fun b => ⟨b, 0, none⟩ := ⟨_, rfl⟩
  rw [← hra, ← hn] at c0
  rw [← hn] at hm
  clear h hn hra
  rcases hm with hm | hm
  · go_enter Try.func44, Try.ntmps44
    go_wp2_with fail
    all_goals go_ret
    all_goals exact ⟨rfl, rfl⟩
  · have hm0 : ¬ m < 0 := by omega
    go_enter Try.func44, Try.ntmps44
    go_wp2_with fail
    all_goals go_ret
    all_goals exact ⟨rfl, rfl⟩
set_option maxRecDepth 100000 in
theorem rback_ok (h : RefC w x rb cap rs) (m : Nat) (hm : m ≤ rs.length) (hlen : rs.length < 1000000) : Calls Try.prog 44 #[.pointer (some ⟨x, 0, none⟩), .int .i64 (m : Int)] w fun e w' =>
    e = .returned (.bool true) ∧ RTurns w x (rfoot x rb rs) ((rabs rs).take m) w' := by
  have c0 := h.cell0
  have f0 : w.frozen? ⟨x, 0, none⟩ = false := frozen_of_row _ _ _ _ _ h.set
  have hcut := ref_cut h m hm
  have hcap : (rs.length : Int) ≤ (cap : Int) := by have := h.row.2.1; omega
  have hnil : rb = none → m = 0 := fun e => by have hr := h.row; rw [e] at hr; have := hr.nil.2.1; omega
  obtain ⟨n, hn⟩ : ∃ n, n = rs.length := ⟨_, rfl⟩
  rw [← hn] at c0 hm hlen hcap
  have hm' : (m : Int) ≤ (n : Int) := by omega
  have hm0 : (0 : Int) ≤ (m : Int) := by omega
  have hn' : (n : Int) ≤ 1000000 := by omega
  have hq2 : decide ((m : Int) < 0) = false := decide_eq_false (by omega)
  have hq1 : decide (n < m) = false := decide_eq_false (by omega)
  cases rb with
  | none =>
    obtain rfl := hnil rfl
    have Hc := Lib.hid (And.intro hcut hn)
    clear h hcut hnil hn hm hlen
    go_enter Try.func44, Try.ntmps44
    go_wp2_with fail
    go_ret
    exact ⟨rfl, Hc.out.1⟩
  | some b =>
    have Hc := Lib.hid (And.intro hcut hn)
    clear h hcut hnil hn hm hlen
    go_enter Try.func44, Try.ntmps44
    go_wp2_with fail
    go_ret
    exact ⟨rfl, Hc.out.1⟩
theorem R.tot_step {rs : List R} {j : Nat} (hj : j < rs.length) : tot (rabs (rs.take (j + 1))) = wrap64 (tot (rabs (rs.take j)) + rs[j].num) := by
  rw [List.take_succ_eq_append_getElem hj, rabs_snoc, tot_snoc]
  have h := tot_in (rabs (rs.take j))
  cases rs[j] with
  | key f a k => simp only [R.abs, addN, R.num]; unfold wrap64; omega
  | refund n => rfl
  | log l tb tc => simp only [R.abs, addN, R.num]; unfold wrap64; omega
set_option maxRecDepth 100000 in
set_option maxHeartbeats 800000 in
theorem rtotal_c (h : RefC w x rb cap rs) (hlen : rs.length < 1000000) : Calls Try.prog 27 #[.pointer (some ⟨x, 0, none⟩)] w fun e w' => e = .returned (.int .i64 (tot (rabs rs))) ∧ w = w' := by
  have c0 := h.cell0
  obtain ⟨n, hn⟩ : ∃ n, n = rs.length := ⟨_, rfl⟩
  obtain ⟨ra, hra⟩ : ∃ ra : Option Addr, ra = rb.map fun b => ⟨b, 0, none⟩ := ⟨_, rfl⟩
  rw [← hra, ← hn] at c0
  have hn' : (n : Int) ≤ 1000000 := by omega
  have H := Lib.hid (And.intro h (And.intro hn hra))
  clear h hlen hn hra
  go_enter Try.func27, Try.ntmps27
  go_wp2_with fail
  go_loop [3, 4] (fun t i => ∃ j : Nat, i = .int .i64 j ∧ (j : Int) ≤ n ∧ t = .int .i64 (tot (rabs (rs.take j)))) (fun _ i => n - (intOf i).toNat)
  case atStart => exact ⟨0, rfl, by omega, rfl⟩
  case round =>
    obtain ⟨j, rfl, hj, rfl⟩ := hrel
    have hj0 : (0 : Int) ≤ (j : Int) := by omega
    obtain ⟨t, ht⟩ : ∃ t, t = tot (rabs (rs.take j)) := ⟨_, rfl⟩
    rw [← ht]
    by_cases hlt : (j : Int) < (n : Int)
    · have hjl : j < rs.length := by have := H.out.2.1; omega
      obtain ⟨b, hb, hbl, hc⟩ := H.out.1.cellsAt j hjl
      have ea : ra = some ⟨b, 0, none⟩ := by rw [H.out.2.2, hb]; rfl
      have d6 := hc 6 (by omega)
      have hst := R.tot_step hjl
      rw [← ht] at hst
      obtain ⟨z, hz⟩ : ∃ z, z = rs[j].num := ⟨_, rfl⟩
      rw [← hz] at hst
      simp only [R.cells, List.getElem?_cons_zero, List.getElem?_cons_succ] at d6
      rw [← hz] at d6
      subst ea
      have HS := Lib.hid hst
      clear hst hz hc hb hbl ht
      go_wp2_with fail
      go_round
      case rel => exact ⟨j + 1, by go_num, by omega, by rw [HS.out]⟩
      case measure => simp [intOf]; omega
    · have hjn : rs.take j = rs := List.take_of_length_le (by have := H.out.2.1; omega)
      rw [hjn] at ht
      have HT := Lib.hid ht
      clear ht hjn
      go_wp2_with fail
      go_ret
      exact ⟨by rw [← HT.out]; rfl, rfl⟩
theorem refund_src (n : Int) : (R.refund n).cells.toArray = #[.int .i64 4, .string ⟨#[]⟩, .int .u64 0, .int .u64 0, .int .u64 0, .int .u64 0, .int .i64 n, .string ⟨#[]⟩, .slice none 0 0, .string ⟨#[]⟩] := rfl
set_option maxRecDepth 100000 in
set_option maxHeartbeats 800000 in
theorem rrefund_c (h : RefC w x rb cap rs) (n : Int) (hlen : rs.length < 1000000) :
    Calls Try.prog 41 #[.pointer (some ⟨x, 0, none⟩), .int .i64 n] w fun e w' => e = .returned (.tuple #[]) ∧ RTurns w x (rfoot x rb rs) (rabs rs ++ [.refund n]) w' := by
  obtain ⟨b', cap', W, r1, r2, r3, r4, r5⟩ := ref_world h (.refund n) w (Below.refl _ _) trivial (fun k hk => by cases hk) hlen 53
  have c0 := h.cell0
  have x5 := r3.trans h.set
  have z0 : W.cell? ⟨x, 0, none⟩ = some (.slice (rb.map fun b => ⟨b, 0, none⟩) rs.length cap) := by rw [cell_of_row _ _ _ _ _ _ x5]; rfl
  have z0f : W.frozen? ⟨x, 0, none⟩ = false := frozen_of_row _ _ _ _ _ x5
  rw [refund_src] at r1
  obtain ⟨ra, hra⟩ : ∃ ra : Option Addr, ra = rb.map fun b => ⟨b, 0, none⟩ := ⟨_, rfl⟩
  obtain ⟨l, hl⟩ : ∃ l, l = rs.length := ⟨_, rfl⟩
  rw [← hl, ← hra] at r1 c0 z0
  rw [← hl] at r5
  have HR := Lib.hid r5
  have Happ := Lib.hid r1
  clear h hlen r1 r2 r3 r4 r5 x5 hra hl
  go_enter Try.func41, Try.ntmps41
  go_wp2_with (at_builtin; refine wpList_append_run _ _ 53 53 _ _ _ W (by rfl) (by rfl) Happ.out ?_; go_frame)
  go_end0
  exact ⟨rfl, HR.out⟩
end
end Go.Proofs.Ytgjaennilkhejaa

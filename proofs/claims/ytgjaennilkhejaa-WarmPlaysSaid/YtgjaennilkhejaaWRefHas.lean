/- The walks of has, once and what stands on them, of the reference of chapter 11. The bound: at most 10^6 changes. -/
import Derived.Test.YtgjaennilkhejaaWRef
namespace Go.Proofs.Ytgjaennilkhejaa
open Go.RowKit
attribute [local go_sem ↓] Go.wp_at_zero Go.wp_at_succ
def Match (r : R) (f : Fin 4) (a : ByteArray) (k : W4) : Prop := r.kind = kd f ∧ r.addr = a ∧ r.word = k
theorem kd_inj : ∀ f g : Fin 4, kd f = kd g → f = g := by decide
theorem kd_ne : ∀ f : Fin 4, kd f ≠ 4 ∧ kd f ≠ 5 := by decide
theorem keyIn_match {w : World} {r : R} {f : Fin 4} {a : ByteArray} {k : W4} (h : r.ok w) (hk : f = 1 ∨ k = wz) : keyIn f r.abs = some (keyV f a k) ↔ Match r f a k := by
  cases r with
  | key g b m =>
    constructor
    · intro e
      simp only [R.abs, keyIn] at e
      split at e
      · rename_i hg
        subst hg
        simp only [Option.some.injEq] at e
        unfold keyV at e
        by_cases h1 : g = 1
        · rw [if_pos h1, if_pos h1] at e
          obtain ⟨rfl, rfl⟩ := slotV_inj e
          exact ⟨rfl, rfl, rfl⟩
        · rw [if_neg h1, if_neg h1] at e
          cases e
          refine ⟨rfl, rfl, ?_⟩
          have e1 : m = wz := by rcases h with h | h; exact absurd h h1; exact h
          have e2 : k = wz := by rcases hk with h | h; exact absurd h h1; exact h
          rw [e2]; exact e1
      · cases e
    · rintro ⟨h1, h2, h3⟩
      have hg : g = f := kd_inj _ _ h1
      simp only [R.addr] at h2
      simp only [R.word] at h3
      subst hg; subst h2; subst h3
      simp [R.abs, keyIn]
  | refund n =>
    constructor
    · intro e; simp [R.abs, keyIn] at e
    · rintro ⟨h1, _, _⟩; exact absurd h1.symm (kd_ne f).1
  | log l tb tc =>
    constructor
    · intro e; simp [R.abs, keyIn] at e
    · rintro ⟨h1, _, _⟩; exact absurd h1.symm (kd_ne f).2
section
variable {w : World} {x : Nat} {rb : Option Nat} {cap : Nat} {rs : List R}
theorem has_yes (h : RefC w x rb cap rs) {f : Fin 4} {a : ByteArray} {k : W4} (hk : f = 1 ∨ k = wz) (j : Nat) (hj : j < rs.length) (hm : Match rs[j] f a k) : hasK f (keyV f a k) (rabs rs) = true := by
  refine hasK_true ?_
  unfold keysOf rabs
  rw [List.mem_filterMap]
  exact ⟨_, List.mem_map_of_mem (List.getElem_mem hj), (keyIn_match (h.ok _ (List.getElem_mem hj)) hk).2 hm⟩
def NoM (rs : List R) (f : Fin 4) (a : ByteArray) (k : W4) (n : Nat) : Prop := ∀ i (h : i < rs.length), i < n → ¬ Match rs[i] f a k
theorem has_no (h : RefC w x rb cap rs) {f : Fin 4} {a : ByteArray} {k : W4} (hk : f = 1 ∨ k = wz) (hm : NoM rs f a k rs.length) : hasK f (keyV f a k) (rabs rs) = false := by
  refine hasK_false fun hin => ?_
  unfold keysOf rabs at hin
  rw [List.mem_filterMap] at hin
  obtain ⟨c, hc, e⟩ := hin
  obtain ⟨r, hr, rfl⟩ := List.mem_map.1 hc
  obtain ⟨i, hi, rfl⟩ := List.getElem_of_mem hr
  exact hm i hi hi ((keyIn_match (h.ok _ hr) hk).1 e)
theorem NoM.succ {rs : List R} {f : Fin 4} {a : ByteArray} {k : W4} {j : Nat} (h : NoM rs f a k j) (hj : j < rs.length) (hm : ¬ Match rs[j] f a k) : NoM rs f a k (j + 1) := by
  intro i hi hlt
  by_cases e : i = j
  · subst e; exact hm
  · exact h i hi (by omega)
theorem eql_word (k : W4) (w : World) : (binOp .eql 24 (.agg #[.int .u64 k.a, .int .u64 k.b, .int .u64 k.c, .int .u64 k.d]) (.agg #[.int .u64 k.a, .int .u64 k.b, .int .u64 k.c, .int .u64 k.d])).run Try.prog w = .ok (.bool true) w := by
  go_simp
theorem eql_word_no {k m : W4} (h : k ≠ m) (w : World) : (binOp .eql 24 (.agg #[.int .u64 k.a, .int .u64 k.b, .int .u64 k.c, .int .u64 k.d]) (.agg #[.int .u64 m.a, .int .u64 m.b, .int .u64 m.c, .int .u64 m.d])).run Try.prog w = .ok (.bool false) w := by
  go_simp
  obtain ⟨a, b, c, d⟩ := k
  obtain ⟨a2, b2, c2, d2⟩ := m
  simp only [ne_eq, W4.mk.injEq, not_and] at h
  by_cases h1 : a = a2
  · by_cases h2 : b = b2
    · by_cases h3 : c = c2
      · simp [h1, h2, h3, h h1 h2 h3]
      · simp [h3]
    · simp [h2]
  · simp [h1]
set_option maxRecDepth 100000 in
set_option maxHeartbeats 1600000 in
theorem rhas_c (h : RefC w x rb cap rs) (f : Fin 4) (a : ByteArray) (k : W4) (hk : f = 1 ∨ k = wz) (hlen : rs.length < 1000000) :
    Calls Try.prog 49 #[.pointer (some ⟨x, 0, none⟩), .int .i64 (kd f), .string a, .agg #[.int .u64 k.a, .int .u64 k.b, .int .u64 k.c, .int .u64 k.d]] w fun e w' =>
      e = .returned (.bool (hasK f (keyV f a k) (rabs rs))) ∧ Below w.heap.size w w' := by
  obtain ⟨n, hn⟩ : ∃ n, n = rs.length := ⟨_, rfl⟩
  obtain ⟨K, hK⟩ : ∃ K, K = kd f := ⟨_, rfl⟩
  have hyes := fun j hj => has_yes (f := f) (a := a) (k := k) h hk j hj
  have hno := has_no (f := f) (a := a) (k := k) h hk
  obtain ⟨B, hB⟩ : ∃ B, B = hasK f (keyV f a k) (rabs rs) := ⟨_, rfl⟩
  rw [← hB] at hyes hno ⊢
  obtain ⟨W1, hW1⟩ : ∃ W1, W1 = w.alloc (.cells #[.int .u64 k.a, .int .u64 k.b, .int .u64 k.c, .int .u64 k.d] 24 (0, 0)) := ⟨_, rfl⟩
  have hb1 : Below w.heap.size w W1 := by rw [hW1]; exact (Below.refl _ _).alloc (Nat.le_refl _) _
  have h1 := h.below hb1
  have o1 : W1.heap[w.heap.size]? = some (.cells #[.int .u64 k.a, .int .u64 k.b, .int .u64 k.c, .int .u64 k.d] 24 (0, 0)) := by rw [hW1]; exact heap_alloc_new _ _
  obtain ⟨Q, hQ⟩ : ∃ Q, Q = w.heap.size := ⟨_, rfl⟩
  rw [← hQ] at o1
  have H := Lib.hid (And.intro h1 (And.intro hyes (And.intro hno (And.intro hn (And.intro hK (And.intro o1 (And.intro hb1 hQ)))))))
  have HW1 := Lib.hid hW1
  have hnI : (n : Int) ≤ 1000000 := by omega
  rw [← hK]
  clear h hk hlen hyes hno hb1 h1 o1 hn hK hB hW1
  go_enter Try.func49, Try.ntmps49
  go_upto_region 1 with fail
  rw [← HW1.out]
  rw [← H.out.2.2.2.2.2.2.2]
  go_wp2_with fail
  clear hQ
  go_loopw [9] (fun i wr => ∃ j : Nat, i = .int .i64 j ∧ (j : Int) ≤ n ∧ NoM rs f a k j ∧ Below W1.heap.size W1 wr) (fun i _ => n - (intOf i).toNat)
  case atStart => exact ⟨0, rfl, by omega, fun i hi h0 => absurd h0 (Nat.not_lt_zero _), Below.refl _ _⟩
  case round =>
    obtain ⟨j, rfl, hj, hN, hb⟩ := hrel
    have hr := H.out.1.below hb
    have c0 := hr.cell0
    rw [← H.out.2.2.2.1] at c0
    have hj0 : (0 : Int) ≤ (j : Int) := by omega
    by_cases hlt : (j : Int) < (n : Int)
    · have hjl : j < rs.length := by have := H.out.2.2.2.1; omega
      obtain ⟨b, rfl, hbl, hc⟩ := hr.cellsAt j hjl
      obtain ⟨r, hrj⟩ : ∃ r, r = rs[j] := ⟨_, rfl⟩
      rw [← hrj] at hc
      have d0 := hc 0 (by omega)
      rw [Nat.add_zero] at d0
      have d1 := hc 1 (by omega)
      have d2 := hc 2 (by omega)
      have d3 := hc 3 (by omega)
      have d4 := hc 4 (by omega)
      have d5 := hc 5 (by omega)
      simp only [R.cells, List.getElem?_cons_zero, List.getElem?_cons_succ] at d0 d1 d2 d3 d4 d5
      have hQl := lt_of_block H.out.2.2.2.2.2.1
      have oq := (hb.block _ hQl).trans H.out.2.2.2.2.2.1
      have q0 : wr.cell? ⟨Q, 0, none⟩ = some (.int .u64 k.a) := by rw [cell_of_row _ _ _ _ _ _ oq]; rfl
      have q1 : wr.cell? ⟨Q, 1, none⟩ = some (.int .u64 k.b) := by rw [cell_of_row _ _ _ _ _ _ oq]; rfl
      have q2 : wr.cell? ⟨Q, 2, none⟩ = some (.int .u64 k.c) := by rw [cell_of_row _ _ _ _ _ _ oq]; rfl
      have q3 : wr.cell? ⟨Q, 3, none⟩ = some (.int .u64 k.d) := by rw [cell_of_row _ _ _ _ _ _ oq]; rfl
      have HR := Lib.hid (And.intro hN (And.intro hb hrj))
      obtain ⟨rk, hrk⟩ : ∃ z, z = r.kind := ⟨_, rfl⟩
      obtain ⟨ra, hra⟩ : ∃ z, z = r.addr := ⟨_, rfl⟩
      obtain ⟨rw4, hrw⟩ : ∃ z, z = r.word := ⟨_, rfl⟩
      rw [← hrk] at d0
      rw [← hra] at d1
      rw [← hrw] at d2 d3 d4 d5
      have HE := Lib.hid (And.intro hrk (And.intro hra hrw))
      clear hrk hra hrw hr hc hN hb hrj hQl oq hbl
      have hst : ∀ wx nq, wx = wr.drewN nq → Below W1.heap.size W1 wx := fun wx nq e => by rw [e]; exact HR.out.2.1.trans ⟨rfl, rfl, rfl, Nat.le_refl _, fun _ _ => rfl⟩
      have Hst := Lib.hid hst
      clear hst
      have hma : Match rs[j] f a k ↔ rk = K ∧ ra = a ∧ rw4 = k := by unfold Match; rw [← HR.out.2.2, H.out.2.2.2.2.1, HE.out.1, HE.out.2.1, HE.out.2.2]
      have Hma := Lib.hid hma
      clear hma
      by_cases m1 : rk = K
      · by_cases m2 : ra = a
        · by_cases m3 : rw4 = k
          · have HB := Lib.hid (H.out.2.1 j hjl (Hma.out.2 ⟨m1, m2, m3⟩))
            subst m1 m2 m3
            have g1 : (rk == rk) = true := by simp
            have g2 : (ra.toList == ra.toList) = true := by simp
            have g3 := eql_word rw4
            go_upto_region 4 with fail
            go_quiet (fail)
            go_wp2_with fail
            go_ret
            exact ⟨by rw [HB.out]; rfl, H.out.2.2.2.2.2.2.1.trans ((Hst.out _ _ rfl).mono H.out.2.2.2.2.2.2.1.size)⟩
          · have HN := Lib.hid (HR.out.1.succ hjl fun e => m3 (Hma.out.1 e).2.2)
            have g3 := eql_word_no m3
            subst m1 m2
            clear m3
            have g1 : (rk == rk) = true := by simp
            have g2 : (ra.toList == ra.toList) = true := by simp
            go_upto_region 4 with fail
            go_quiet (fail)
            go_wp2_with fail
            exact ⟨⟨j + 1, by go_num, by omega, HN.out, Hst.out _ _ rfl⟩, by simp [intOf]; omega⟩
        · have HN := Lib.hid (HR.out.1.succ hjl fun e => m2 (Hma.out.1 e).2.1)
          have g2 : (ra.toList == a.toList) = false := Bool.eq_false_iff.2 fun e => m2 ((bytes_eq _ _).1 e)
          subst m1
          clear m2
          have g1 : (rk == rk) = true := by simp
          go_upto_region 4 with fail
          go_quiet (fail)
          go_wp2_with fail
          exact ⟨⟨j + 1, by go_num, by omega, HN.out, Hst.out _ _ rfl⟩, by simp [intOf]; omega⟩
      · have HN := Lib.hid (HR.out.1.succ hjl fun e => m1 (Hma.out.1 e).1)
        have g1 : (rk == K) = false := by simpa using m1
        clear m1
        go_upto_region 4 with fail
        go_quiet (fail)
        go_wp2_with fail
        exact ⟨⟨j + 1, by go_num, by omega, HN.out, Hst.out _ _ rfl⟩, by simp [intOf]; omega⟩
    · have hjn : j = n := by omega
      have hB : B = false := H.out.2.2.1 (by rw [← H.out.2.2.2.1, ← hjn]; exact hN)
      have HB := Lib.hid (And.intro hB hb)
      clear hjn hB hN hb hr
      go_wp2_with fail
      go_ret
      exact ⟨by rw [HB.out.1]; rfl, H.out.2.2.2.2.2.2.1.trans (HB.out.2.mono H.out.2.2.2.2.2.2.1.size)⟩
set_option maxRecDepth 100000 in
set_option maxHeartbeats 1600000 in
theorem ronce_had (h : RefC w x rb cap rs) (f : Fin 4) (a : ByteArray) (k : W4) (hk : f = 1 ∨ k = wz) (hlen : rs.length < 1000000) (hB : hasK f (keyV f a k) (rabs rs) = true) :
    Calls Try.prog 50 #[.pointer (some ⟨x, 0, none⟩), .int .i64 (kd f), .string a, .agg #[.int .u64 k.a, .int .u64 k.b, .int .u64 k.c, .int .u64 k.d]] w fun e w' =>
      e = .returned (.bool true) ∧ Below w.heap.size w w' := by
  obtain ⟨W1, hW1⟩ : ∃ W1, W1 = w.alloc (.cells #[.int .u64 k.a, .int .u64 k.b, .int .u64 k.c, .int .u64 k.d] 24 (0, 0)) := ⟨_, rfl⟩
  have hb1 : Below w.heap.size w W1 := by rw [hW1]; exact (Below.refl _ _).alloc (Nat.le_refl _) _
  have o1 : W1.heap[w.heap.size]? = some (.cells #[.int .u64 k.a, .int .u64 k.b, .int .u64 k.c, .int .u64 k.d] 24 (0, 0)) := by rw [hW1]; exact heap_alloc_new _ _
  have hc := rhas_c (h.below hb1) f a k hk hlen
  rw [hB] at hc
  have c0 : W1.cell? ⟨w.heap.size, 0, none⟩ = some (.int .u64 k.a) := by rw [cell_of_row _ _ _ _ _ _ o1]; rfl
  have c1 : W1.cell? ⟨w.heap.size, 1, none⟩ = some (.int .u64 k.b) := by rw [cell_of_row _ _ _ _ _ _ o1]; rfl
  have c2 : W1.cell? ⟨w.heap.size, 2, none⟩ = some (.int .u64 k.c) := by rw [cell_of_row _ _ _ _ _ _ o1]; rfl
  have c3 : W1.cell? ⟨w.heap.size, 3, none⟩ = some (.int .u64 k.d) := by rw [cell_of_row _ _ _ _ _ _ o1]; rfl
  have Hc := Lib.hid (And.intro hc hb1)
  have HW1 := Lib.hid hW1
  clear h hk hlen hB hb1 o1 hc hW1
  go_enter Try.func50, Try.ntmps50
  go_upto_region 1 with fail
  rw [← HW1.out]
  go_wp2_with fail
  refine Hc.out.1.mono ?_
  rintro e w1 ⟨rfl, hb⟩
  have Hb := Lib.hid hb
  clear hb
  go_wp2_with fail
  go_ret
  exact ⟨rfl, Hc.out.2.trans (Hb.out.mono Hc.out.2.size)⟩
set_option maxRecDepth 100000 in
set_option maxHeartbeats 1600000 in
theorem ronce_new (h : RefC w x rb cap rs) (f : Fin 4) (a : ByteArray) (k : W4) (hk : f = 1 ∨ k = wz) (hlen : rs.length < 1000000) (hB : hasK f (keyV f a k) (rabs rs) = false) :
    Calls Try.prog 50 #[.pointer (some ⟨x, 0, none⟩), .int .i64 (kd f), .string a, .agg #[.int .u64 k.a, .int .u64 k.b, .int .u64 k.c, .int .u64 k.d]] w fun e w' =>
      e = .returned (.bool false) ∧ RTurns w x (rfoot x rb rs) (rabs rs ++ [.key f (keyV f a k)]) w' := by
  obtain ⟨W1, hW1⟩ : ∃ W1, W1 = w.alloc (.cells #[.int .u64 k.a, .int .u64 k.b, .int .u64 k.c, .int .u64 k.d] 24 (0, 0)) := ⟨_, rfl⟩
  have hb1 : Below w.heap.size w W1 := by rw [hW1]; exact (Below.refl _ _).alloc (Nat.le_refl _) _
  have o1 : W1.heap[w.heap.size]? = some (.cells #[.int .u64 k.a, .int .u64 k.b, .int .u64 k.c, .int .u64 k.d] 24 (0, 0)) := by rw [hW1]; exact heap_alloc_new _ _
  have hc := rhas_c (h.below hb1) f a k hk hlen
  rw [hB] at hc
  have hworld := fun (W0 : World) (hb : Below w.heap.size w W0) => ref_world h (.key f a k) W0 hb hk (fun k hk => by cases hk) hlen 53
  have c0 : W1.cell? ⟨w.heap.size, 0, none⟩ = some (.int .u64 k.a) := by rw [cell_of_row _ _ _ _ _ _ o1]; rfl
  have c1 : W1.cell? ⟨w.heap.size, 1, none⟩ = some (.int .u64 k.b) := by rw [cell_of_row _ _ _ _ _ _ o1]; rfl
  have c2 : W1.cell? ⟨w.heap.size, 2, none⟩ = some (.int .u64 k.c) := by rw [cell_of_row _ _ _ _ _ _ o1]; rfl
  have c3 : W1.cell? ⟨w.heap.size, 3, none⟩ = some (.int .u64 k.d) := by rw [cell_of_row _ _ _ _ _ _ o1]; rfl
  have Hc := Lib.hid (And.intro hc (And.intro hb1 (And.intro hworld (And.intro o1 h))))
  have HW1 := Lib.hid hW1
  obtain ⟨n, hn⟩ : ∃ n, n = rs.length := ⟨_, rfl⟩
  have Hn := Lib.hid hn
  obtain ⟨Q, hQ⟩ : ∃ Q, Q = w.heap.size := ⟨_, rfl⟩
  rw [← hQ] at c0 c1 c2 c3
  have HQ := Lib.hid hQ
  clear h hk hlen hB hb1 o1 hc hW1 hworld hn hQ
  go_enter Try.func50, Try.ntmps50
  go_upto_region 1 with fail
  rw [← HW1.out, ← HQ.out]
  go_wp2_with fail
  refine Hc.out.1.mono ?_
  rintro e w1 ⟨rfl, hb⟩
  have hbw := Hc.out.2.1.trans (hb.mono Hc.out.2.1.size)
  obtain ⟨b', cap', W, r1, r2, r3, r4, r5⟩ := Hc.out.2.2.1 w1.drew (hbw.trans ⟨rfl, rfl, rfl, Nat.le_refl _, fun _ _ => rfl⟩)
  have o1 := (hb.block _ (lt_of_block Hc.out.2.2.2.1)).trans Hc.out.2.2.2.1
  rw [← HQ.out] at o1
  have hQl := lt_of_block o1
  have hx := (Hc.out.2.2.2.2.below hbw).set
  have hxl := lt_of_block hx
  obtain ⟨W4, hW4⟩ : ∃ W4, W4 = w1.alloc (.cells #[.int .i64 (kd f), .string a, .int .u64 k.a, .int .u64 k.b, .int .u64 k.c, .int .u64 k.d, .int .i64 0, .string ⟨#[]⟩, .slice none 0 0, .string ⟨#[]⟩] 75 (0, 0)) := ⟨_, rfl⟩
  have happ : (Builtin.append_ #[53, 53] 53 #[.slice (rb.map fun b => ⟨b, 0, none⟩) rs.length cap, .slice (some ⟨w1.heap.size, 0, none⟩) 1 1]).run Try.prog W4.drew = .ok (.slice (some ⟨b', 0, none⟩) (rs.length + 1) cap') W := by rw [hW4]; exact r1
  have e0 : w1.cell? ⟨Q, 0, none⟩ = some (.int .u64 k.a) := by rw [cell_of_row _ _ _ _ _ _ o1]; rfl
  have e1 : w1.cell? ⟨Q, 1, none⟩ = some (.int .u64 k.b) := by rw [cell_of_row _ _ _ _ _ _ o1]; rfl
  have e2 : w1.cell? ⟨Q, 2, none⟩ = some (.int .u64 k.c) := by rw [cell_of_row _ _ _ _ _ _ o1]; rfl
  have e3 : w1.cell? ⟨Q, 3, none⟩ = some (.int .u64 k.d) := by rw [cell_of_row _ _ _ _ _ _ o1]; rfl
  have x0 : w1.cell? ⟨x, 0, none⟩ = some (.slice (rb.map fun b => ⟨b, 0, none⟩) rs.length cap) := by rw [cell_of_row _ _ _ _ _ _ hx]; rfl
  have o4 : W4.heap[Q]? = _ := (by rw [hW4]; exact heap_alloc_old _ _ hQl : W4.heap[Q]? = w1.heap[Q]?).trans o1
  have x4 : W4.heap[x]? = _ := (by rw [hW4]; exact heap_alloc_old _ _ hxl : W4.heap[x]? = w1.heap[x]?).trans hx
  have g0 : W4.cell? ⟨Q, 0, none⟩ = some (.int .u64 k.a) := by rw [cell_of_row _ _ _ _ _ _ o4]; rfl
  have g1 : W4.cell? ⟨Q, 1, none⟩ = some (.int .u64 k.b) := by rw [cell_of_row _ _ _ _ _ _ o4]; rfl
  have g2 : W4.cell? ⟨Q, 2, none⟩ = some (.int .u64 k.c) := by rw [cell_of_row _ _ _ _ _ _ o4]; rfl
  have g3 : W4.cell? ⟨Q, 3, none⟩ = some (.int .u64 k.d) := by rw [cell_of_row _ _ _ _ _ _ o4]; rfl
  have y0 : W4.cell? ⟨x, 0, none⟩ = some (.slice (rb.map fun b => ⟨b, 0, none⟩) rs.length cap) := by rw [cell_of_row _ _ _ _ _ _ x4]; rfl
  have x5 := r3.trans Hc.out.2.2.2.2.set
  have z0 : W.cell? ⟨x, 0, none⟩ = some (.slice (rb.map fun b => ⟨b, 0, none⟩) rs.length cap) := by rw [cell_of_row _ _ _ _ _ _ x5]; rfl
  have z0f : W.frozen? ⟨x, 0, none⟩ = false := frozen_of_row _ _ _ _ _ x5
  obtain ⟨ra, hra⟩ : ∃ ra : Option Addr, ra = rb.map fun b => ⟨b, 0, none⟩ := ⟨_, rfl⟩
  rw [← Hn.out, ← hra] at happ x0 y0 z0
  rw [← Hn.out] at r5
  have HR := Lib.hid r5
  have Happ := Lib.hid happ
  have HW4 := Lib.hid hW4
  clear hb hbw r1 r2 r3 r4 r5 o1 hQl hx hxl hW4 happ o4 x4 x5 hra
  have hw4 := HW4.out.symm
  go_upto_region 3 with fail
  go_region_law (refine step_append_run rfl (.tmp 21) (.tmp 26) 53 53 rfl (.slice ra n cap) (.slice (some ⟨w1.heap.size, 0, none⟩) 1 1) _ W (by simp [Act.eval]) (by simp [Act.eval]) Happ.out ?_)
  all_goals go_wp2_with fail
  all_goals go_ret
  all_goals exact ⟨rfl, HR.out⟩
end
end Go.Proofs.Ytgjaennilkhejaa

/- Lists of logs in memory; the walk of logs, at two that are the same. The bound: a list of at most 10^6 logs; topics that Go lets one have. -/
import Derived.Test.YtgjaennilkhejaaWLog
import Derived.Test.YtgjaennilkhejaaWApart
namespace Go.Proofs.Ytgjaennilkhejaa
open Go.RowKit
attribute [local go_sem ↓] Go.wp_at_zero Go.wp_at_succ
theorem flat_get {α β : Type} (f : α → List β) (k : Nat) : ∀ (l : List α) (_ : ∀ x ∈ l, (f x).length = k) (i : Nat) (hi : i < l.length) (j : Nat) (_ : j < k), (l.flatMap f)[i * k + j]? = (f l[i])[j]?
  | [], _, i, hi, _, _ => absurd hi (Nat.not_lt_zero _)
  | x :: r, h, 0, _, j, hj => by
    have hx := h x List.mem_cons_self
    rw [List.flatMap_cons, Nat.zero_mul, Nat.zero_add, List.getElem?_append_left (by omega)]
    rfl
  | x :: r, h, i + 1, hi, j, hj => by
    have hx := h x List.mem_cons_self
    have := flat_get f k r (fun y hy => h y (List.mem_cons_of_mem _ hy)) i (by simpa using hi) j hj
    rw [List.flatMap_cons, List.getElem?_append_right (by rw [hx, Nat.succ_mul]; omega), hx, show (i + 1) * k + j - k = i * k + j by rw [Nat.succ_mul]; omega, this]
    rfl
theorem W4s_get (l : List W4) (i : Nat) (hi : i < l.length) : (W4s l)[i * 4]? = some (.int .u64 l[i].a) ∧ (W4s l)[i * 4 + 1]? = some (.int .u64 l[i].b) ∧ (W4s l)[i * 4 + 2]? = some (.int .u64 l[i].c) ∧ (W4s l)[i * 4 + 3]? = some (.int .u64 l[i].d) := by
  have h := fun j hj => flat_get W4.cells 4 l (fun x _ => rfl) i hi j hj
  exact ⟨h 0 (by omega), h 1 (by omega), h 2 (by omega), h 3 (by omega)⟩
theorem VArg.at {w : World} {sz : Nat} {a : Option Addr} {cap n : Nat} {cs : List Value} (h : VArg sz w a cap n cs) (h0 : 0 < cs.length) :
    ∃ b o, a = some ⟨b, o, none⟩ ∧ b < w.heap.size ∧ ∀ i (hi : i < cs.length), w.cell? ⟨b, o + i, none⟩ = some (cs[i]) := by
  obtain ⟨b, hb, hlt, hc⟩ := h.cell 0 h0
  obtain ⟨bb, o, sp⟩ := b
  have hsp : sp = none := by
    rw [show (⟨bb, o, sp⟩ : Addr).add 0 = ⟨bb, o, sp⟩ from rfl] at hc
    unfold World.cell? at hc
    cases sp with
    | none => rfl
    | some x =>
      simp only [Option.isSome_some, if_true] at hc
      split at hc <;> cases hc
  subst hsp
  refine ⟨bb, o, hb, hlt, fun i hi => ?_⟩
  obtain ⟨b2, h1, _, h3⟩ := h.cell i hi
  rw [hb] at h1
  cases h1
  rw [show (⟨bb, o, none⟩ : Addr).add i = ⟨bb, o + i, none⟩ by unfold Addr.add; split <;> simp_all] at h3
  exact h3
theorem VArg.word {w : World} {a : Option Addr} {cap n : Nat} {l : List W4} (h : VArg 4 w a cap n (W4s l)) (k : Nat) (hk : k < l.length) :
    ∃ b o, a = some ⟨b, o, none⟩ ∧ b < w.heap.size ∧ w.cell? ⟨b, o + k * 4, none⟩ = some (.int .u64 l[k].a) ∧ w.cell? ⟨b, o + k * 4 + 1, none⟩ = some (.int .u64 l[k].b) ∧ w.cell? ⟨b, o + k * 4 + 2, none⟩ = some (.int .u64 l[k].c) ∧ w.cell? ⟨b, o + k * 4 + 3, none⟩ = some (.int .u64 l[k].d) := by
  have hl := W4s_length l
  obtain ⟨g0, g1, g2, g3⟩ := W4s_get l k hk
  obtain ⟨b, o, hb, hlt, hc⟩ := h.at (by omega)
  have c0 := hc (k * 4) (by omega)
  have c1 := hc (k * 4 + 1) (by omega)
  have c2 := hc (k * 4 + 2) (by omega)
  have c3 := hc (k * 4 + 3) (by omega)
  rw [← List.getElem?_eq_getElem] at c0 c1 c2 c3
  exact ⟨b, o, hb, hlt, c0.trans g0, by rw [Nat.add_assoc]; exact c1.trans g1, by rw [Nat.add_assoc]; exact c2.trans g2, by rw [Nat.add_assoc]; exact c3.trans g3⟩
/-- A list of logs in a row of its own. -/
structure LogsAt (w : World) (gb : Option Nat) (n : Nat) (xs : List Lg) : Prop where
  len : xs.length = n
  get : ∀ i (h : i < xs.length), ∃ b ta tc, gb = some b ∧ b < w.heap.size ∧ w.cell? ⟨b, i * 3, none⟩ = some (.string xs[i].addr) ∧ w.cell? ⟨b, i * 3 + 1, none⟩ = some (.slice ta xs[i].topics.length tc) ∧ w.cell? ⟨b, i * 3 + 2, none⟩ = some (.string xs[i].data) ∧
    VArg 4 w ta tc xs[i].topics.length (W4s xs[i].topics) ∧ (xs[i].topics.length : Int) ≤ 281474976710656
theorem LogsAt.kept {w w' : World} {gb : Option Nat} {n : Nat} {xs : List Lg} (h : LogsAt w gb n xs) (hb : Below w.heap.size w w') : LogsAt w' gb n xs := by
  refine ⟨h.len, fun i hi => ?_⟩
  obtain ⟨b, ta, tc, h1, h2, h3, h4, h5, h6, h7⟩ := h.get i hi
  have hk : ∀ o, w'.cell? ⟨b, o, none⟩ = w.cell? ⟨b, o, none⟩ := fun o => World.cell?_of_block (a := ⟨b, o, none⟩) (hb.block b h2)
  exact ⟨b, ta, tc, h1, Nat.lt_of_lt_of_le h2 hb.size, (hk _).trans h3, (hk _).trans h4, (hk _).trans h5, h6.below hb, h7⟩
theorem neq_word (k : W4) (w : World) : (binOp .neq 24 (.agg #[.int .u64 k.a, .int .u64 k.b, .int .u64 k.c, .int .u64 k.d]) (.agg #[.int .u64 k.a, .int .u64 k.b, .int .u64 k.c, .int .u64 k.d])).run Try.prog w = .ok (.bool false) w := by
  go_simp
set_option maxRecDepth 100000 in
set_option maxHeartbeats 1600000 in
theorem logs_same (w : World) (ga gb : Option Nat) (ca cb n : Nat) (xs : List Lg) (hx : LogsAt w ga n xs) (hy : LogsAt w gb n xs) (hn : (n : Int) ≤ 1000000) :
    Calls Try.prog 16 #[.slice (ga.map fun b => ⟨b, 0, none⟩) n ca, .slice (gb.map fun b => ⟨b, 0, none⟩) n cb] w fun e w' => e = .returned (.bool true) ∧ Below w.heap.size w w' := by
  have H := Lib.hid (And.intro hx hy)
  have hl := hx.len
  have Hl := Lib.hid hl
  obtain ⟨a, ha⟩ : ∃ a : Option Addr, a = ga.map fun b => ⟨b, 0, none⟩ := ⟨_, rfl⟩
  obtain ⟨b, hb⟩ : ∃ b : Option Addr, b = gb.map fun b => ⟨b, 0, none⟩ := ⟨_, rfl⟩
  rw [← ha, ← hb]
  have HA := Lib.hid (And.intro ha hb)
  clear hx hy hl ha hb
  go_enter Try.func16, Try.ntmps16
  go_wp2_with fail
  go_loopw [5] (fun i wr => ∃ j : Nat, i = .int .i64 j ∧ (j : Int) ≤ n ∧ Below w.heap.size w wr) (fun i _ => n - (intOf i).toNat)
  case atStart => exact ⟨0, rfl, by omega, Below.refl _ _⟩
  case round =>
    obtain ⟨j, rfl, hj, hbw⟩ := hrel
    have hj0 : (0 : Int) ≤ (j : Int) := by omega
    by_cases hlt : (j : Int) < (n : Int)
    · have hjl : j < xs.length := by have := Hl.out; omega
      obtain ⟨b1, ta, tc, p1, p2, p3, p4, p5, p6, p7⟩ := (H.out.1.kept hbw).get j hjl
      obtain ⟨b2, ua, uc, q1, q2, q3, q4, q5, q6, q7⟩ := (H.out.2.kept hbw).get j hjl
      have ea : a = some ⟨b1, 0, none⟩ := by rw [HA.out.1, p1]; rfl
      have eb : b = some ⟨b2, 0, none⟩ := by rw [HA.out.2, q1]; rfl
      obtain ⟨x, hx⟩ : ∃ x, x = xs[j] := ⟨_, rfl⟩
      rw [← hx] at p3 p4 p5 p6 p7 q3 q4 q5 q6
      obtain ⟨m, hm⟩ : ∃ m, m = x.topics.length := ⟨_, rfl⟩
      rw [← hm] at p4 p7 q4
      have HV := Lib.hid (And.intro p6 (And.intro q6 (And.intro hm hbw)))
      subst ea
      subst eb
      clear p1 q1 p2 q2 p6 q6 q7 hx hm hbw hjl
      have g1 : (!(x.addr.toList == x.addr.toList)) = false := by simp
      have g2 : (!(x.data.toList == x.data.toList)) = false := by simp
      have g3 : (!((m : Int) == (m : Int))) = false := by simp
      go_upto_region 6 with fail
      go_quiet (fail)
      go_wp2_with fail
      rename_i nq
      obtain ⟨wo, hwo⟩ : ∃ wo, wo = wr.drewN nq := ⟨_, rfl⟩
      rw [← hwo]
      have hbo : Below wr.heap.size wr wo := by rw [hwo]; exact ⟨rfl, rfl, rfl, Nat.le_refl _, fun _ _ => rfl⟩
      have r4 : wo.cell? ⟨b1, j * 3 + 1, none⟩ = some (.slice ta m tc) := by rw [hwo]; exact p4
      have s4 : wo.cell? ⟨b2, j * 3 + 1, none⟩ = some (.slice ua m uc) := by rw [hwo]; exact q4
      have HO := Lib.hid (And.intro hbo (And.intro (World.block_lt_of_cell? wo ⟨b1, j * 3 + 1, none⟩ r4) (And.intro (World.block_lt_of_cell? wo ⟨b2, j * 3 + 1, none⟩ s4) (And.intro r4 s4))))
      clear p3 p4 p5 q3 q4 q5 hwo hbo r4 s4
      go_loopw [6] (fun i wx => ∃ k : Nat, i = .int .i64 k ∧ (k : Int) ≤ m ∧ Below wo.heap.size wo wx) (fun i _ => m - (intOf i).toNat)
      case atStart => exact ⟨0, rfl, by omega, Below.refl _ _⟩
      case round =>
        obtain ⟨k, rfl, hk, hbx⟩ := hrel
        have hk0 : (0 : Int) ≤ (k : Int) := by omega
        have r4 : wr.cell? ⟨b1, j * 3 + 1, none⟩ = some (.slice ta m tc) := (World.cell?_of_block (a := ⟨b1, j * 3 + 1, none⟩) (hbx.block b1 HO.out.2.1)).trans HO.out.2.2.2.1
        have s4 : wr.cell? ⟨b2, j * 3 + 1, none⟩ = some (.slice ua m uc) := (World.cell?_of_block (a := ⟨b2, j * 3 + 1, none⟩) (hbx.block b2 HO.out.2.2.1)).trans HO.out.2.2.2.2
        by_cases hkm : (k : Int) < (m : Int)
        · have hkl : k < x.topics.length := by have := HV.out.2.2.1; omega
          have hb0 := HO.out.1.trans (hbx.mono HO.out.1.size)
          obtain ⟨ba, oa, rfl, _, c0, c1, c2, c3⟩ := (HV.out.1.below hb0).word k hkl
          obtain ⟨bu, ou, rfl, _, d0, d1, d2, d3⟩ := (HV.out.2.1.below hb0).word k hkl
          have hneq := neq_word x.topics[k]
          obtain ⟨t, ht⟩ : ∃ t, t = x.topics[k] := ⟨_, rfl⟩
          rw [← ht] at c0 c1 c2 c3 d0 d1 d2 d3 hneq
          clear ht hkl hb0
          go_upto_region 11 with fail
          go_quiet (fail)
          go_wp2_with fail
          exact ⟨⟨k + 1, by go_num, by omega, hbx.trans ⟨rfl, rfl, rfl, Nat.le_refl _, fun _ _ => rfl⟩⟩, by simp [intOf]; omega⟩
        · have hb0 := HO.out.1.trans (hbx.mono HO.out.1.size)
          go_wp2_with fail
          exact ⟨⟨j + 1, by go_num, by omega, HV.out.2.2.2.trans (hb0.mono HV.out.2.2.2.size)⟩, by simp [intOf]; omega⟩
    · go_wp2_with fail
      go_ret
      exact ⟨rfl, hbw⟩
end Go.Proofs.Ytgjaennilkhejaa

/- The walk of Leaving of the reference of chapter 11. The bound: at most 10^6 changes. -/
import Derived.Test.YtgjaennilkhejaaWIns
namespace Go.Proofs.Ytgjaennilkhejaa
open Go.RowKit
attribute [local go_sem ↓] Go.wp_at_zero Go.wp_at_succ
def rname : R → Option ByteArray
  | .key f a _ => if f = 3 then some a else none
  | _ => none
def rnames (rs : List R) : List ByteArray := rs.filterMap rname
theorem kd_six : ∀ f : Fin 4, kd f = 6 ↔ f = 3 := by decide
theorem rname_six (r : R) : (r.kind = 6 ∧ rname r = some r.addr) ∨ (r.kind ≠ 6 ∧ rname r = none) := by
  cases r with
  | key f a k =>
    by_cases h : f = 3
    · exact .inl ⟨(kd_six f).2 h, by simp [rname, R.addr, h]⟩
    · exact .inr ⟨fun e => h ((kd_six f).1 e), by simp [rname, h]⟩
  | refund n => exact .inr ⟨by simp [R.kind], rfl⟩
  | log l tb tc => exact .inr ⟨by simp [R.kind], rfl⟩
theorem rnames_take (rs : List R) (j : Nat) (hj : j < rs.length) : rnames (rs.take (j + 1)) = rnames (rs.take j) ++ (match rname rs[j] with | some y => [y] | none => []) := by
  unfold rnames
  rw [List.take_succ_eq_append_getElem hj, List.filterMap_append]
  cases h : rname rs[j] <;> simp [h]
theorem rnames_abs (rs : List R) : rnames rs = namesOf (rabs rs) := by
  induction rs with
  | nil => rfl
  | cons r t ih =>
    unfold rnames namesOf keysOf rabs at ih ⊢
    cases r with
    | key f a k =>
      by_cases h : f = 3
      · subst h
        simp only [List.map_cons, List.filterMap_cons, rname, if_true, R.abs, keyIn, keyV, if_neg (show ¬ (3 : Fin 4) = 1 by decide), strOf]
        exact congrArg (a :: ·) ih
      · simp only [List.map_cons, List.filterMap_cons, rname, if_neg h, R.abs, keyIn]
        exact ih
    | refund n => exact ih
    | log l tb tc => exact ih
def strs (ns : List ByteArray) : List Value := ns.map Value.string
theorem strs_one (ns : List ByteArray) : ∀ u ∈ strs ns, u.oneCell' = true := by
  intro u hu
  obtain ⟨s, _, rfl⟩ := List.mem_map.1 hu
  rfl
theorem strs_length (ns : List ByteArray) : (strs ns).length = ns.length := List.length_map _
/-- A name put between: the three appends. -/
theorem ins_world {w : World} {gb : Option Nat} {cp : Nat} {ns : List ByteArray} (hR : VRow 9 1 w gb cp ns.length (strs ns)) (k : Nat) (hk : k ≤ ns.length) (a : ByteArray) (hml : ns.length < 1000000) (m : Nat) (hm : m = ns.length) (ga sa : Option Addr) (hga : ga = gb.map fun b => ⟨b, 0, none⟩)
    (hsa : VArg 1 w sa (cp - k) (m - k) ((strs ns).drop k)) (hins : insR a ns = ns.take k ++ a :: ns.drop k) (ty : TypeId) :
    ∃ (tb : Option Nat) (tc : Nat) (W1 : World) (b2 c2 : Nat) (W2 : World) (b3 c3 : Nat) (W3 : World),
      (Builtin.append_ #[42, 42] ty #[.slice none 0 0, .slice ga k cp]).run Try.prog w = .ok (.slice (tb.map fun b => ⟨b, 0, none⟩) k tc) W1 ∧
      (Builtin.append_ #[42, 42] ty #[.slice (tb.map fun b => ⟨b, 0, none⟩) k tc, .slice (some ⟨W1.heap.size, 0, none⟩) 1 1]).run Try.prog (W1.alloc (.cells #[.string a] 9 (0, 0))) = .ok (.slice (some ⟨b2, 0, none⟩) (k + 1) c2) W2 ∧
      (Builtin.append_ #[42, 42] ty #[.slice (some ⟨b2, 0, none⟩) (k + 1) c2, .slice sa (m - k) (cp - k)]).run Try.prog W2 = .ok (.slice (some ⟨b3, 0, none⟩) (m + 1) c3) W3 ∧
      VRow 9 1 W3 (some b3) c3 (insR a ns).length (strs (insR a ns)) ∧ w.heap.size ≤ b3 ∧ Below w.heap.size w W1 ∧ Below w.heap.size w W3 := by
  obtain ⟨i, hi, hz, hsz, hby⟩ := info_parts info_string
  subst hm hga
  have hv := (hR.arg (strs_one ns)).first k hk
  obtain ⟨tb, tc, W1, p1, p2, p3, p4⟩ := run_append_none w 42 ty 9 i _ Try.underlying42 hi hz (by rw [hsz]; rfl) (by omega) _ cp k _ (by rw [hsz]; exact hv) (by omega) (by rw [hby]; omega)
  rw [hsz] at p2
  have hs1 := p4.size
  obtain ⟨Wa, hWa⟩ : ∃ Wa, Wa = W1.alloc (.cells #[.string a] 9 (0, 0)) := ⟨_, rfl⟩
  have hba : Below W1.heap.size W1 Wa := by rw [hWa]; exact (Below.refl _ _).alloc (Nat.le_refl _) _
  have hsa1 : Wa.heap.size = W1.heap.size + 1 := by rw [hWa]; exact World.size_alloc _ _
  have hsrc : Src Try.prog i.size 42 (.slice (some ⟨W1.heap.size, 0, none⟩) 1 1) 1 [.string a] Wa := by
    rw [hWa, hsz]
    exact src_row W1 _ _ Try.underlying42 [.string a] (fun u hu => by rw [List.mem_singleton.1 hu]; rfl) 1 rfl _ rfl 1
  obtain ⟨b2, c2, W2, q1, q2, q3, q4⟩ := run_append_v Wa 42 ty 9 i _ Try.underlying42 hi hz (by rw [hsz]; rfl) (by omega) tb tc k _ (by rw [hsz]; exact p2.below hba) _ _ hsrc (by omega)
  have hs2 := q4.size
  have hb2 : w.heap.size ≤ b2 := by
    rcases q3 with e | e
    · exact p3 _ e
    · omega
  have hkw : ∀ b, b < w.heap.size → W2.heap[b]? = w.heap[b]? := fun b hb => by
    rw [q4.block b (by omega) (fun e => by have := p3 b e.symm; omega), hba.block b (by omega)]
    exact p4.block b hb
  have hsa2 : VArg 1 W2 sa (cp - k) (ns.length - k) ((strs ns).drop k) := hsa.kept (by omega) (fun b _ hlt => hkw b.block hlt)
  obtain ⟨b3, c3, W3, r1, r2, r3, r4⟩ := run_append_q W2 42 ty 9 i _ Try.underlying42 hi hz (by rw [hsz]; rfl) (by omega) b2 c2 (k + 1) _ q2 (.slice sa (ns.length - k) (cp - k)) (ns.length - k) _ (by rw [hsz]; exact hsa2.src Try.underlying42) (by omega)
  rw [show k + 1 + (ns.length - k) = ns.length + 1 by omega] at r1 r2
  rw [hsz] at r2
  have hlen : (insR a ns).length = ns.length + 1 := (insR_perm a ns).length_eq
  have hcs : strs (insR a ns) = (strs ns).take (k * 1) ++ [.string a] ++ (strs ns).drop k := by rw [hins]; simp [strs]
  refine ⟨tb, tc, W1, b2, c2, W2, b3, c3, W3, p1, by rw [← hWa]; exact q1, r1, ?_, ?_, p4, ?_⟩
  · rw [hlen, hcs]; exact r2
  · rcases r3 with e | e
    · rw [e]; exact hb2
    · omega
  · exact ⟨r4.os.trans (q4.os.trans (hba.os.trans p4.os)), r4.tape.trans (q4.tape.trans (hba.tape.trans p4.tape)), r4.output.trans (q4.output.trans (hba.output.trans p4.output)), by have := r4.size; omega,
      fun b hb => (r4.block b (by omega) (fun e => by cases e; omega)).trans (hkw b hb)⟩
section
variable {w : World} {x : Nat} {rb : Option Nat} {cap : Nat} {rs : List R}
set_option maxRecDepth 100000 in
set_option maxHeartbeats 1600000 in
theorem rleaving_c (h : RefC w x rb cap rs) (hlen : rs.length < 1000000) :
    Calls Try.prog 25 #[.pointer (some ⟨x, 0, none⟩)] w fun e w' => ∃ (gb : Option Nat) (cp : Nat) (ns : List ByteArray), e = .returned (.slice (gb.map fun b => ⟨b, 0, none⟩) ns.length cp) ∧
      VRow 9 1 w' gb cp ns.length (strs ns) ∧ ns = insAll (namesOf (rabs rs)) ∧ Below w.heap.size w w' := by
  obtain ⟨n, hn⟩ : ∃ n, n = rs.length := ⟨_, rfl⟩
  have hnI : (n : Int) ≤ 1000000 := by omega
  have H := Lib.hid (And.intro h hn)
  clear h hlen hn
  go_enter Try.func25, Try.ntmps25
  go_wp2_with fail
  go_loopw [3, 4] (fun o i wr => ∃ (j : Nat) (gb : Option Nat) (cp : Nat) (ns : List ByteArray), i = .int .i64 j ∧ (j : Int) ≤ n ∧ o = .slice (gb.map fun b => ⟨b, 0, none⟩) ns.length cp ∧ ns = insAll (rnames (rs.take j)) ∧
    VRow 9 1 wr gb cp ns.length (strs ns) ∧ (∀ b, gb = some b → w.heap.size ≤ b) ∧ Below w.heap.size w wr) (fun _ i _ => n - (intOf i).toNat)
  case atStart => exact ⟨0, none, 0, [], rfl, by omega, rfl, rfl, ⟨rfl, Nat.le_refl _, rfl⟩, (fun b e => by cases e), Below.refl _ _⟩
  case round =>
    obtain ⟨j, gb, cp, ns, rfl, hj, rfl, hns, hR, hnew, hb⟩ := hrel
    have hj0 : (0 : Int) ≤ (j : Int) := by omega
    have hr := H.out.1.below hb
    have c0 := hr.cell0
    rw [← H.out.2] at c0
    obtain ⟨m, hm⟩ : ∃ m, m = ns.length := ⟨_, rfl⟩
    obtain ⟨ga, hga⟩ : ∃ ga : Option Addr, ga = gb.map fun b => ⟨b, 0, none⟩ := ⟨_, rfl⟩
    rw [← hm, ← hga]
    by_cases hlt : (j : Int) < (n : Int)
    · have hjl : j < rs.length := by have := H.out.2; omega
      obtain ⟨b, rfl, hbl, hc⟩ := hr.cellsAt j hjl
      have hst := rnames_take rs j hjl
      obtain ⟨r, hrj⟩ : ∃ r, r = rs[j] := ⟨_, rfl⟩
      rw [← hrj] at hc hst
      have d0 := hc 0 (by omega)
      rw [Nat.add_zero] at d0
      have d1 := hc 1 (by omega)
      simp only [R.cells, List.getElem?_cons_zero] at d0
      simp only [R.cells, List.getElem?_cons_zero, List.getElem?_cons_succ] at d1
      have hml : ns.length < 1000000 := by
        have h1 : (rnames (rs.take j)).length ≤ (rs.take j).length := List.length_filterMap_le _ _
        rw [List.length_take] at h1
        rw [hns, insAll_length]
        have := H.out.2
        omega
      have hmI : (m : Int) ≤ 1000000 := by omega
      have hmc : (m : Int) ≤ (cp : Int) := by have := hR.2.1; omega
      rcases rname_six r with ⟨hk, hnm⟩ | ⟨hk, hnm⟩
      · rw [hnm] at hst
        dsimp only at hst
        rw [hk] at d0
        obtain ⟨a, ha⟩ : ∃ a, a = r.addr := ⟨_, rfl⟩
        rw [← ha] at d1 hst
        have HR := Lib.hid (And.intro hR (And.intro hnew (And.intro hb (And.intro hst (And.intro hm (And.intro hga (And.intro hns (And.intro hr hml))))))))
        obtain ⟨wo, rfl⟩ : ∃ wo : World, wo = wr := ⟨_, rfl⟩
        have HA : Hid (rs[j].addr = a) := Lib.hid (by rw [← hrj, ha])
        clear hR hnew hb hr hst hm hga hns hml hc hbl hrj hk hnm ha
        go_wp2_with fail
        go_loopw [5] (fun i wx => ∃ k : Nat, i = .int .i64 k ∧ (k : Int) ≤ m ∧ (∀ i (hi : i < ns.length), i < k → bl ns[i] a = true) ∧ Below wo.heap.size wo wx) (fun i _ => m - (intOf i).toNat)
        case atStart => exact ⟨0, rfl, by omega, (fun i hi h0 => absurd h0 (Nat.not_lt_zero _)), Below.refl _ _⟩
        case round =>
          obtain ⟨k, rfl, hk, hall, hbx⟩ := hrel
          have hk0 : (0 : Int) ≤ (k : Int) := by omega
          obtain ⟨hR, hnew, hb, hst, hm, hga, hns, hr, hml⟩ := HR.out
          have hr2 := hr.below hbx
          have hR2 := hR.below hbx
          have c0' := hr2.cell0
          rw [← H.out.2] at c0'
          obtain ⟨b2, hb2, _, hc2⟩ := hr2.cellsAt j hjl
          cases hb2
          have d1' := hc2 1 (by omega)
          have hrj' : rs[j].addr = a := HA.out
          simp only [R.cells, List.getElem?_cons_zero, List.getElem?_cons_succ, hrj'] at d1'
          have Hbx := Lib.hid hbx
          by_cases hkm : (k : Int) < (m : Int)
          · have hkl : k < ns.length := by omega
            obtain ⟨g, hg, hcell⟩ := hR2.cell k (by rw [strs_length]; exact hkl)
            have hcy : wr.cell? ⟨g, k, none⟩ = some (.string ns[k]) := by rw [hcell]; simp [strs]
            obtain rfl : gb = some g := hg
            obtain ⟨y, hy⟩ : ∃ y, y = ns[k] := ⟨_, rfl⟩
            rw [← hy] at hcy
            have ea : ga = some ⟨g, 0, none⟩ := hga
            by_cases hl : bl y a = true
            · have g1 : Op.bytesLess y.toList a.toList = true := hl
              have HN : Hid (∀ i (hi : i < ns.length), i < k + 1 → bl ns[i] a = true) := Lib.hid (fun i hi hlt => by
                by_cases e : i = k
                · subst e; rw [← hy]; exact hl
                · exact hall i hi (by omega))
              subst ea
              clear hR hnew hb hst hm hga hns hr hml hr2 hR2 hc2 hrj' hcell hy hall hl hbx
              go_upto_region 7 with fail
              go_quiet (fail)
              go_wp2_with fail
              exact ⟨⟨k + 1, by go_num, by omega, HN.out, Hbx.out.trans ⟨rfl, rfl, rfl, Nat.le_refl _, fun _ _ => rfl⟩⟩, by simp [intOf]; omega⟩
            · have g1 : Op.bytesLess y.toList a.toList = false := Bool.eq_false_iff.2 hl
              have HN := Lib.hid (insR_at a ns k (by omega) hall (fun h => by rw [← hy]; exact Bool.eq_false_iff.2 hl))
              subst ea
              clear hR hnew hb hst hm hga hns hr hml hr2 hR2 hc2 hrj' hcell hy hall hl hbx
              go_upto_region 7 with fail
              go_quiet (fail)
              rename_i nq
              obtain ⟨wx, hwx⟩ : ∃ wx, wx = wr.drewN nq := ⟨_, rfl⟩
              rw [← hwx]
              have hb0 : Below wo.heap.size wo wx := by rw [hwx]; exact Hbx.out.trans ⟨rfl, rfl, rfl, Nat.le_refl _, fun _ _ => rfl⟩
              obtain ⟨hR, hnew, hb, hst, hm, hga, hns, hr, hml⟩ := HR.out
              have hv := ((hR.below hb0).arg (strs_one ns)).behind k (by omega)
              rw [← hm, Nat.mul_one, if_neg (by omega)] at hv
              obtain ⟨tb, tc, W1, b2, c2, W2, b3, c3, W3, k1, k2, k3, k4, k5, k6, k7⟩ := ins_world (hR.below hb0) k (by omega) a hml m hm _ _ hga hv HN.out 42
              have hrW := (hr.below hb0).below k6
              have e0 := hrW.cell0
              rw [← H.out.2] at e0
              obtain ⟨b2', hb2, _, hc2⟩ := hrW.cellsAt j hjl
              cases hb2
              have e1 := hc2 1 (by omega)
              simp only [R.cells, List.getElem?_cons_zero, List.getElem?_cons_succ, HA.out] at e1
              obtain ⟨ta, hta⟩ : ∃ ta : Option Addr, ta = tb.map fun b => ⟨b, 0, none⟩ := ⟨_, rfl⟩
              rw [← hta] at k1 k2
              have K1 := Lib.hid k1
              have K2 := Lib.hid k2
              have K3 := Lib.hid k3
              have KR := Lib.hid (And.intro k4 (And.intro k5 (And.intro k7 hb0)))
              clear hR hnew hb hst hm hga hns hr hml hv hrW hc2 hta k1 k2 k3 k4 k5 k6 k7 hb0 hwx
              go_upto_region 10 with fail
              have tok1 : True := trivial
              have tok2 : True := trivial
              go_wp2_with (first | (at_builtin; have _t := tok1; refine wpList_append_run _ _ 42 42 _ _ _ W1 (by rfl) (by rfl) K1.out ?_; clear _t tok1; go_frame) | (at_builtin; have _t := tok2; refine wpList_append_run _ _ 42 42 _ _ _ W2 (by rfl) (by rfl) K2.out ?_; clear _t tok2; go_frame) | (at_builtin; refine wpList_append_run _ _ 42 42 _ _ _ W3 (by rfl) (by rfl) K3.out ?_; go_frame))
              obtain ⟨hR, hnew, hb, hst, hm, hga, hns, hr, hml⟩ := HR.out
              obtain ⟨q1, q2, q3, q4⟩ := KR.out
              have hl1 : (insR a ns).length = m + 1 := by rw [(insR_perm a ns).length_eq, hm]; rfl
              have hb3 := q4.trans (q3.mono q4.size)
              refine ⟨⟨j + 1, some b3, c3, insR a ns, by go_num, by omega, by rw [hl1]; rfl, by rw [hst, insAll_snoc, hns], q1, fun b e => ?_, hb.trans (hb3.mono hb.size)⟩, by simp [intOf]; omega⟩
              cases e
              have h1 := hb.size
              have h2 := q4.size
              omega
          · have hkm2 : k = m := by omega
            have HN := Lib.hid (insR_at a ns k (by omega) hall (fun h => absurd h (by omega)))
            cases gb with
            | none =>
              have hz := hR.nil
              have hm0 : m = 0 := by rw [hm]; exact hz.2.1
              have hc0 : cp = 0 := hz.2.2
              have hns0 : ns = [] := List.length_eq_zero_iff.1 hz.2.1
              have ea : ga = none := hga
              have Hns0 := Lib.hid hns0
              subst ea hkm2 hc0
              obtain rfl : k = 0 := hm0
              clear hR hnew hb hst hm hga hns hr hml hr2 hR2 hc2 hrj' hall hbx hz hns0
              go_upto_region 7 with fail
              go_quiet (fail)
              rename_i nq
              obtain ⟨wx, hwx⟩ : ∃ wx, wx = wr.drewN nq := ⟨_, rfl⟩
              rw [← hwx]
              have hb0 : Below wo.heap.size wo wx := by rw [hwx]; exact Hbx.out.trans ⟨rfl, rfl, rfl, Nat.le_refl _, fun _ _ => rfl⟩
              obtain ⟨hR, hnew, hb, hst, hm, hga, hns, hr, hml⟩ := HR.out
              have hv : VArg 1 wx none (0 - 0) (0 - 0) ((strs ns).drop 0) := by rw [Hns0.out]; exact ⟨rfl, Nat.le_refl _, fun _ => rfl, (fun u hu => by cases hu), fun i hi => absurd hi (Nat.not_lt_zero _)⟩
              obtain ⟨tb, tc, W1, b2, c2, W2, b3, c3, W3, k1, k2, k3, k4, k5, k6, k7⟩ := ins_world (hR.below hb0) 0 (by omega) a hml 0 hm _ _ hga hv HN.out 42
              have hrW := (hr.below hb0).below k6
              have e0 := hrW.cell0
              rw [← H.out.2] at e0
              obtain ⟨b2', hb2, _, hc2⟩ := hrW.cellsAt j hjl
              cases hb2
              have e1 := hc2 1 (by omega)
              simp only [R.cells, List.getElem?_cons_zero, List.getElem?_cons_succ, HA.out] at e1
              obtain ⟨ta, hta⟩ : ∃ ta : Option Addr, ta = tb.map fun b => ⟨b, 0, none⟩ := ⟨_, rfl⟩
              rw [← hta] at k1 k2
              have K1 := Lib.hid k1
              have K2 := Lib.hid k2
              have K3 := Lib.hid k3
              have KR := Lib.hid (And.intro k4 (And.intro k5 (And.intro k7 hb0)))
              clear hR hnew hb hst hm hga hns hr hml hv hrW hc2 hta k1 k2 k3 k4 k5 k6 k7 hb0 hwx
              go_upto_region 10 with fail
              have tok1 : True := trivial
              have tok2 : True := trivial
              go_wp2_with (first | (at_builtin; have _t := tok1; refine wpList_append_run _ _ 42 42 _ _ _ W1 (by rfl) (by rfl) K1.out ?_; clear _t tok1; go_frame) | (at_builtin; have _t := tok2; refine wpList_append_run _ _ 42 42 _ _ _ W2 (by rfl) (by rfl) K2.out ?_; clear _t tok2; go_frame) | (at_builtin; refine wpList_append_run _ _ 42 42 _ _ _ W3 (by rfl) (by rfl) K3.out ?_; go_frame))
              obtain ⟨hR, hnew, hb, hst, hm, hga, hns, hr, hml⟩ := HR.out
              obtain ⟨q1, q2, q3, q4⟩ := KR.out
              have hl1 : (insR a ns).length = 0 + 1 := by rw [(insR_perm a ns).length_eq, hm]; rfl
              have hb3 := q4.trans (q3.mono q4.size)
              refine ⟨⟨j + 1, some b3, c3, insR a ns, by go_num, by omega, by rw [hl1]; rfl, by rw [hst, insAll_snoc, hns], q1, fun b e => ?_, hb.trans (hb3.mono hb.size)⟩, by simp [intOf]; omega⟩
              cases e
              have h1 := hb.size
              have h2 := q4.size
              omega
            | some g =>
              have ea : ga = some ⟨g, 0, none⟩ := hga
              subst ea hkm2
              by_cases hcp : cp = k
              · subst hcp
                clear hR hnew hb hst hm hga hns hr hml hr2 hR2 hc2 hrj' hall hbx
                go_upto_region 7 with fail
                go_quiet (fail)
                rename_i nq
                obtain ⟨wx, hwx⟩ : ∃ wx, wx = wr.drewN nq := ⟨_, rfl⟩
                rw [← hwx]
                have hb0 : Below wo.heap.size wo wx := by rw [hwx]; exact Hbx.out.trans ⟨rfl, rfl, rfl, Nat.le_refl _, fun _ _ => rfl⟩
                obtain ⟨hR, hnew, hb, hst, hm, hga, hns, hr, hml⟩ := HR.out
                have hv := ((hR.below hb0).arg (strs_one ns)).behind cp (by omega)
                rw [← hm, Nat.mul_one, if_pos rfl] at hv
                obtain ⟨tb, tc, W1, b2, c2, W2, b3, c3, W3, k1, k2, k3, k4, k5, k6, k7⟩ := ins_world (hR.below hb0) cp (by omega) a hml cp hm _ _ hga hv HN.out 42
                have hrW := (hr.below hb0).below k6
                have e0 := hrW.cell0
                rw [← H.out.2] at e0
                obtain ⟨b2', hb2, _, hc2⟩ := hrW.cellsAt j hjl
                cases hb2
                have e1 := hc2 1 (by omega)
                simp only [R.cells, List.getElem?_cons_zero, List.getElem?_cons_succ, HA.out] at e1
                obtain ⟨ta, hta⟩ : ∃ ta : Option Addr, ta = tb.map fun b => ⟨b, 0, none⟩ := ⟨_, rfl⟩
                rw [← hta] at k1 k2
                rw [Nat.sub_self] at k3
                have K1 := Lib.hid k1
                have K2 := Lib.hid k2
                have K3 := Lib.hid k3
                have KR := Lib.hid (And.intro k4 (And.intro k5 (And.intro k7 hb0)))
                clear hR hnew hb hst hm hga hns hr hml hv hrW hc2 hta k1 k2 k3 k4 k5 k6 k7 hb0 hwx
                go_upto_region 10 with fail
                have tok1 : True := trivial
                have tok2 : True := trivial
                go_wp2_with (first | (at_builtin; have _t := tok1; refine wpList_append_run _ _ 42 42 _ _ _ W1 (by rfl) (by rfl) K1.out ?_; clear _t tok1; go_frame) | (at_builtin; have _t := tok2; refine wpList_append_run _ _ 42 42 _ _ _ W2 (by rfl) (by rfl) K2.out ?_; clear _t tok2; go_frame) | (at_builtin; refine wpList_append_run _ _ 42 42 _ _ _ W3 (by rfl) (by rfl) K3.out ?_; go_frame))
                obtain ⟨hR, hnew, hb, hst, hm, hga, hns, hr, hml⟩ := HR.out
                obtain ⟨q1, q2, q3, q4⟩ := KR.out
                have hl1 : (insR a ns).length = cp + 1 := by rw [(insR_perm a ns).length_eq, hm]; rfl
                have hb3 := q4.trans (q3.mono q4.size)
                refine ⟨⟨j + 1, some b3, c3, insR a ns, by go_num, by omega, by rw [hl1]; rfl, by rw [hst, insAll_snoc, hns], q1, fun b e => ?_, hb.trans (hb3.mono hb.size)⟩, by simp [intOf]; omega⟩
                cases e
                have h1 := hb.size
                have h2 := q4.size
                omega
              · clear hR hnew hb hst hm hga hns hr hml hr2 hR2 hc2 hrj' hall hbx
                go_upto_region 7 with fail
                go_quiet (fail)
                rename_i nq
                obtain ⟨wx, hwx⟩ : ∃ wx, wx = wr.drewN nq := ⟨_, rfl⟩
                rw [← hwx]
                have hb0 : Below wo.heap.size wo wx := by rw [hwx]; exact Hbx.out.trans ⟨rfl, rfl, rfl, Nat.le_refl _, fun _ _ => rfl⟩
                obtain ⟨hR, hnew, hb, hst, hm, hga, hns, hr, hml⟩ := HR.out
                have hv := ((hR.below hb0).arg (strs_one ns)).behind k (by omega)
                rw [← hm, Nat.mul_one, if_neg hcp] at hv
                obtain ⟨tb, tc, W1, b2, c2, W2, b3, c3, W3, k1, k2, k3, k4, k5, k6, k7⟩ := ins_world (hR.below hb0) k (by omega) a hml k hm _ _ hga hv HN.out 42
                have hrW := (hr.below hb0).below k6
                have e0 := hrW.cell0
                rw [← H.out.2] at e0
                obtain ⟨b2', hb2, _, hc2⟩ := hrW.cellsAt j hjl
                cases hb2
                have e1 := hc2 1 (by omega)
                simp only [R.cells, List.getElem?_cons_zero, List.getElem?_cons_succ, HA.out] at e1
                obtain ⟨ta, hta⟩ : ∃ ta : Option Addr, ta = tb.map fun b => ⟨b, 0, none⟩ := ⟨_, rfl⟩
                rw [← hta] at k1 k2
                rw [Nat.sub_self] at k3
                have K1 := Lib.hid k1
                have K2 := Lib.hid k2
                have K3 := Lib.hid k3
                have KR := Lib.hid (And.intro k4 (And.intro k5 (And.intro k7 hb0)))
                clear hR hnew hb hst hm hga hns hr hml hv hrW hc2 hta k1 k2 k3 k4 k5 k6 k7 hb0 hwx
                go_upto_region 10 with fail
                have tok1 : True := trivial
                have tok2 : True := trivial
                go_wp2_with (first | (at_builtin; have _t := tok1; refine wpList_append_run _ _ 42 42 _ _ _ W1 (by rfl) (by rfl) K1.out ?_; clear _t tok1; go_frame) | (at_builtin; have _t := tok2; refine wpList_append_run _ _ 42 42 _ _ _ W2 (by rfl) (by rfl) K2.out ?_; clear _t tok2; go_frame) | (at_builtin; refine wpList_append_run _ _ 42 42 _ _ _ W3 (by rfl) (by rfl) K3.out ?_; go_frame))
                obtain ⟨hR, hnew, hb, hst, hm, hga, hns, hr, hml⟩ := HR.out
                obtain ⟨q1, q2, q3, q4⟩ := KR.out
                have hl1 : (insR a ns).length = k + 1 := by rw [(insR_perm a ns).length_eq, hm]; rfl
                have hb3 := q4.trans (q3.mono q4.size)
                refine ⟨⟨j + 1, some b3, c3, insR a ns, by go_num, by omega, by rw [hl1]; rfl, by rw [hst, insAll_snoc, hns], q1, fun b e => ?_, hb.trans (hb3.mono hb.size)⟩, by simp [intOf]; omega⟩
                cases e
                have h1 := hb.size
                have h2 := q4.size
                omega
      · rw [hnm] at hst
        simp only [List.append_nil] at hst
        obtain ⟨rk, hrk⟩ : ∃ z, z = r.kind := ⟨_, rfl⟩
        rw [← hrk] at d0 hk
        have g0 : (rk == 6) = false := by simpa using hk
        have g1 : ¬ rk = 6 := hk
        have HR := Lib.hid (And.intro hR (And.intro hnew (And.intro hb (And.intro hst (And.intro hm (And.intro hga hns))))))
        clear hR hnew hb hr hst hm hga hns hml hc hbl hrj hk hnm hrk
        go_wp2_with fail
        obtain ⟨hR, hnew, hb, hst, hm, hga, hns⟩ := HR.out
        exact ⟨⟨j + 1, gb, cp, ns, by go_num, by omega, by rw [← hm, ← hga], by rw [hst]; exact hns, hR, hnew, hb⟩, by simp [intOf]; omega⟩
    · have hjn : rs.take j = rs := List.take_of_length_le (by have := H.out.2; omega)
      rw [hjn, rnames_abs] at hns
      have HR := Lib.hid (And.intro hR (And.intro hb (And.intro hm (And.intro hga hns))))
      clear hR hnew hb hr hm hga hns hjn
      go_wp2_with fail
      go_ret
      obtain ⟨hR, hb, hm, hga, hns⟩ := HR.out
      exact ⟨gb, cp, ns, by rw [← hm, ← hga]; rfl, hR, hns, hb⟩
end
end Go.Proofs.Ytgjaennilkhejaa

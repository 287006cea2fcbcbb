/- The walk of the law WarmPlays. No condition but what the argument is. -/
import Derived.Test.YtgjaennilkhejaaWDoes
import Derived.Test.YtgjaennilkhejaaWMarks
namespace Go.Proofs.Ytgjaennilkhejaa
open Go.RowKit
attribute [local go_sem ↓] Go.wp_at_zero Go.wp_at_succ
theorem sortN_ins (xs : List ByteArray) : sortN xs = insAll xs := by
  have ht : ∀ x y z : List UInt8, decide (x ≤ y) = true → decide (y ≤ z) = true → decide (x ≤ z) = true := fun x y z h1 h2 => decide_eq_true (List.le_trans (of_decide_eq_true h1) (of_decide_eq_true h2))
  have htot : ∀ x y : List UInt8, (decide (x ≤ y) || decide (y ≤ x)) = true := fun x y => by
    rcases List.le_total x y with e | e
    · simp [e]
    · simp [e]
  refine up_unique ?_ (insAll_both xs).1 (List.Perm.trans ?_ (insAll_both xs).2.symm)
  · unfold sortN Up
    rw [List.pairwise_map]
    exact (List.pairwise_mergeSort ht htot _).imp fun h => by simpa using h
  · unfold sortN
    refine ((List.mergeSort_perm _ _).map _).trans (List.Perm.of_eq ?_)
    rw [List.map_map]
    refine (List.map_congr_left fun a _ => ?_).trans (List.map_id _)
    exact ba_inj (by simp)
section
variable {W0 w : World} {s x : Nat} {L M : List Ch} {X : Nat → Prop}
theorem s_leaving (h : Pair W0 w s x L M X) (hlen : L.length < 1000000) : Calls Try.prog 21 #[.pointer (some ⟨s, 0, none⟩)] w fun e w' =>
    ∃ (b cap : Nat) (ns : List ByteArray), e = .returned (.slice (some ⟨b, 0, none⟩) ns.length cap) ∧ SRow w' b cap ns ∧ ns = sortN (namesOf L) ∧ Below w.heap.size w w' := by
  obtain ⟨K, _, h2, _⟩ := h
  refine (leaving_one h2.one hlen).mono ?_
  rintro e w' ⟨b, cap, ns, h1, h2, h3, _, h4⟩
  exact ⟨b, cap, ns, h1, h2, h3, h4⟩
theorem r_leaving (h : Pair W0 w s x L M X) (hlen : M.length < 1000000) : Calls Try.prog 25 #[.pointer (some ⟨x, 0, none⟩)] w fun e w' =>
    ∃ (gb : Option Nat) (cp : Nat) (ns : List ByteArray), e = .returned (.slice (gb.map fun b => ⟨b, 0, none⟩) ns.length cp) ∧ VRow 9 1 w' gb cp ns.length (strs ns) ∧ ns = insAll (namesOf M) ∧ Below w.heap.size w w' := by
  obtain ⟨K, ⟨rb, cap, rs, hC, rfl, rfl⟩, _, _⟩ := h
  exact rleaving_c hC (by simpa [rabs] using hlen)
theorem s_logs (h : Pair W0 w s x L M X) (hlen : L.length < 1000000) (hsm : ∀ l ∈ logsOf L, (l.topics.length : Int) ≤ 281474976710656) : Calls Try.prog 17 #[.pointer (some ⟨s, 0, none⟩)] w fun e w' =>
    ∃ (tb : Option Nat) (tc : Nat), e = .returned (.slice (tb.map fun b => ⟨b, 0, none⟩) (logsOf L).length tc) ∧ LogsAt w' tb (logsOf L).length (logsOf L) ∧ Below w.heap.size w w' := by
  obtain ⟨K, _, h2, _⟩ := h
  refine (logs_one h2.one hlen hsm).mono ?_
  rintro e w' ⟨tb, tc, h1, h2, _, h4⟩
  exact ⟨tb, tc, h1, h2, h4⟩
theorem r_logs (h : Pair W0 w s x L M X) (hlen : M.length < 1000000) (hsm : ∀ l ∈ logsOf M, (l.topics.length : Int) ≤ 281474976710656) : Calls Try.prog 26 #[.pointer (some ⟨x, 0, none⟩)] w fun e w' =>
    ∃ (tb : Option Nat) (tc : Nat), e = .returned (.slice (tb.map fun b => ⟨b, 0, none⟩) (logsOf M).length tc) ∧ LogsAt w' tb (logsOf M).length (logsOf M) ∧ Below w.heap.size w w' := by
  obtain ⟨K, ⟨rb, cap, rs, hC, rfl, rfl⟩, _, _⟩ := h
  exact rlogs_c hC (by simpa [rabs] using hlen) hsm
theorem s_total' (h : Pair W0 w s x L M X) : Calls Try.prog 23 #[.pointer (some ⟨s, 0, none⟩)] w fun e w' => e = .returned (.int .i64 (tot L)) ∧ w = w' := by
  obtain ⟨K, _, h2, _⟩ := h
  exact total_one h2.one
theorem r_total' (h : Pair W0 w s x L M X) (hlen : M.length < 1000000) : Calls Try.prog 27 #[.pointer (some ⟨x, 0, none⟩)] w fun e w' => e = .returned (.int .i64 (tot M)) ∧ w = w' := by
  obtain ⟨K, ⟨rb, cap, rs, hC, rfl, rfl⟩, _, _⟩ := h
  exact rtotal_c hC (by simpa [rabs] using hlen)
theorem s_mark' (h : Pair W0 w s x L M X) : Calls Try.prog 18 #[.pointer (some ⟨s, 0, none⟩)] w fun e w' => e = .returned (.int .i64 (L.length : Nat)) ∧ w = w' := by
  obtain ⟨K, _, h2, _⟩ := h
  exact mark_one h2.one
theorem r_mark' (h : Pair W0 w s x L M X) : Calls Try.prog 28 #[.pointer (some ⟨x, 0, none⟩)] w fun e w' => e = .returned (.int .i64 (M.length : Nat)) ∧ w = w' := by
  obtain ⟨K, ⟨rb, cap, rs, hC, rfl, rfl⟩, _, _⟩ := h
  exact (rabs_length rs).symm ▸ rmark_c hC
end
/-- The sets at the law's beginning. -/
theorem pair_start {W0 w w' : World} {s : Nat} (h : One W0 w s []) (hw : w' = w.alloc (.cells #[.slice none 0 0] 55 (0, 0))) : Pair W0 w' s w.heap.size [] [] (fun _ => False) := by
  have hb : Below w.heap.size w w' := by rw [hw]; exact (Below.refl _ _).alloc (Nat.le_refl _) _
  have hs : w'.heap.size = w.heap.size + 1 := by rw [hw]; exact World.size_alloc _ _
  refine ⟨rfoot w.heap.size none [], ⟨none, 0, [], ⟨by rw [hw]; exact heap_alloc_new _ _, ⟨rfl, Nat.le_refl _, rfl⟩, fun r hr => by cases hr⟩, rfl, rfl⟩, h.three.grown hb.os hb.tape hb.output hb.size (fun k hk _ => hb.block k hk) (fun k hk => ?_), fun _ hk => hk.elim⟩
  rcases hk with (e | e | ⟨r, hr, _⟩) | e
  · exact .inr ⟨by omega, by omega⟩
  · cases e
  · cases hr
  · exact e.elim
/-- A deed; a list of deeds that came in. -/
structure Dd where
  zk : Int
  za : Int
  zs : Int
  n : Int
  l : Lg
def DeedsArg (w : World) (v : Value) (xs : List Dd) : Prop :=
  ∃ (a : Option Addr) (len cap : Nat), v = .slice a len cap ∧ xs.length = len ∧ len ≤ cap ∧ (cap : Int) ≤ 9223372036854775807 ∧ ∀ i (h : i < xs.length), ∃ b o ta tc, a = some ⟨b, o, none⟩ ∧ b < w.heap.size ∧
    w.cell? ⟨b, o + i * 7, none⟩ = some (.int .u8 xs[i].zk) ∧ w.cell? ⟨b, o + i * 7 + 1, none⟩ = some (.int .u8 xs[i].za) ∧ w.cell? ⟨b, o + i * 7 + 2, none⟩ = some (.int .u8 xs[i].zs) ∧ w.cell? ⟨b, o + i * 7 + 3, none⟩ = some (.int .i64 xs[i].n) ∧
    w.cell? ⟨b, o + i * 7 + 4, none⟩ = some (.string xs[i].l.addr) ∧ w.cell? ⟨b, o + i * 7 + 5, none⟩ = some (.slice ta xs[i].l.topics.length tc) ∧ w.cell? ⟨b, o + i * 7 + 6, none⟩ = some (.string xs[i].l.data) ∧
    (0 ≤ xs[i].zk ∧ xs[i].zk ≤ 255) ∧ (0 ≤ xs[i].za ∧ xs[i].za ≤ 255) ∧ (0 ≤ xs[i].zs ∧ xs[i].zs ≤ 255) ∧ VArg 4 w ta tc xs[i].l.topics.length (W4s xs[i].l.topics) ∧ xs[i].l.topics.length * 32 ≤ reachBytes
/-- What a round needs of the sets. -/
structure Round (W0 w : World) (s x j : Nat) (L : List Ch) : Prop where
  pair : Pair W0 w s x L L (fun _ => False)
  len : L.length ≤ j
  small : ∀ y ∈ logsOf L, (y.topics.length : Int) ≤ 281474976710656
set_option maxRecDepth 100000 in
set_option maxHeartbeats 3200000 in
theorem plays_walk (v : Value) (xs : List Dd) (w : World) (hv : DeedsArg w v xs) :
    Calls Try.prog 7 #[v] w fun e w' => e = .returned (.bool true) ∧ Below w.heap.size w w' := by
  obtain ⟨a, len, cap, rfl, hxl, hlc, hcap, hget⟩ := hv
  have hex := examples11 w
  have hnew := fun (w1 : World) (hb : Below w.heap.size w w1) => new_any hb
  have HV := Lib.hid (And.intro hxl (And.intro hget hnew))
  have Hex := Lib.hid hex
  have hlcI : (len : Int) ≤ (cap : Int) := by omega
  clear hxl hget hlc hex hnew
  go_enter Try.func7, Try.ntmps7
  go_wp2_with fail
  refine Hex.out.mono ?_
  rintro e w1 ⟨rfl, hb1⟩
  have hn := HV.out.2.2 w1 hb1
  have Hn := Lib.hid hn
  clear hn hb1 Hex
  go_wp2_with fail
  refine Hn.out.mono ?_
  rintro e w2 ⟨s, rfl, h2⟩
  obtain ⟨W3, hW3⟩ : ∃ W3, W3 = w2.alloc (.cells #[.slice none 0 0] 55 (0, 0)) := ⟨_, rfl⟩
  have HP := Lib.hid (pair_start h2 hW3)
  have HW3 := Lib.hid hW3
  obtain ⟨x, hx⟩ : ∃ x, x = w2.heap.size := ⟨_, rfl⟩
  have Hx := Lib.hid hx
  clear h2 Hn hW3 hx
  go_upto_region 8 with fail
  rw [← HW3.out, ← Hx.out]
  go_wp2_with fail
  go_loopw [6] (fun i wr => ∃ (j : Nat) (L : List Ch), i = .int .i64 j ∧ (j : Int) ≤ (len : Int) ∧ (j : Int) ≤ 60 ∧ Round w wr s x j L) (fun i _ => len - (intOf i).toNat)
  case atStart =>
    refine ⟨0, [], rfl, by omega, by omega, ?_, by simp, fun y hy => by simp [logsOf] at hy⟩
    rw [Hx.out]; exact HP.out
  case round =>
    obtain ⟨j, L, rfl, hj, hj60, hR⟩ := hrel
    have HR := Lib.hid hR
    clear hR
    have hj0 : (0 : Int) ≤ (j : Int) := by omega
    have hfin : ∀ (Y : Prop), Y → Y := fun _ h => h
    clear hfin
    by_cases hlt : (j : Int) < (len : Int)
    · by_cases h60 : (j : Int) < 60
      · have hjl : j < xs.length := by have := HV.out.1; omega
        obtain ⟨b, o, ta, tc, rfl, hbl, d0, d1, d2, d3, d4, d5, d6, r0, r1, r2, hva, hby⟩ := HV.out.2.1 j hjl
        have hwb := HR.out.pair.world
        have hk := fun (o : Nat) => World.cell?_of_block (a := ⟨b, o, none⟩) (hwb.block b hbl)
        obtain ⟨u, hu⟩ : ∃ u, u = xs[j] := ⟨_, rfl⟩
        rw [← hu] at d0 d1 d2 d3 d4 d5 d6 r0 r1 r2 hva hby
        have e0 := (hk _).trans d0
        have e1 := (hk _).trans d1
        have e2 := (hk _).trans d2
        have e3 := (hk _).trans d3
        have e4 := (hk _).trans d4
        have e5 := (hk _).trans d5
        have e6 := (hk _).trans d6
        have hreach : reachBytes = 140737488351232 := rfl
        have hd := does_c HR.out.pair u.zk u.za u.zs u.n r0 r1 r2 u.l ta tc hva (by omega) (by have := HR.out.len; omega)
        have Hd := Lib.hid (And.intro hd hby)
        clear d0 d1 d2 d3 d4 d5 d6 r0 r1 r2 hva hby hd hk hwb hu hbl hreach
        go_wp2_with fail
        refine Hd.out.1.mono ?_
        rintro e w4 ⟨rfl, L', hP4, hlen4, hlog4⟩
        have hl4 : L'.length ≤ j + 1 := by have := HR.out.len; omega
        have hsm4 : ∀ y ∈ logsOf L', (y.topics.length : Int) ≤ 281474976710656 := fun y hy => by
          rcases hlog4 y hy with h | h
          · exact HR.out.small y h
          · rw [h]
            have h1 := Hd.out.2
            have h2 : reachBytes = 140737488351232 := rfl
            omega
        have H4 := Lib.hid (And.intro hP4 (And.intro hl4 hsm4))
        clear hP4 hlen4 hlog4 hl4 hsm4 e0 e1 e2 e3 e4 e5 e6
        go_wp2_with fail
        refine (s_leaving H4.out.1 (by have := H4.out.2.1; omega)).mono ?_
        rintro e w5 ⟨pb, pc, ps, rfl, hps, hpn, hb5⟩
        have H5 := Lib.hid (And.intro hps (And.intro hpn (And.intro hb5 (H4.out.1.below hb5))))
        obtain ⟨np, hnp⟩ : ∃ np, np = ps.length := ⟨_, rfl⟩
        rw [← hnp]
        have Hnp := Lib.hid hnp
        clear hps hpn hb5 hnp
        go_wp2_with fail
        refine (r_leaving H5.out.2.2.2 (by have := H4.out.2.1; omega)).mono ?_
        rintro e w6 ⟨qb, qc, qs, rfl, hqs, hqn, hb6⟩
        have hpq : qs = ps := by rw [hqn, H5.out.2.1, sortN_ins]
        subst hpq
        rw [← Hnp.out]
        obtain ⟨qa, hqa⟩ : ∃ qa : Option Addr, qa = qb.map fun b => ⟨b, 0, none⟩ := ⟨_, rfl⟩
        rw [← hqa]
        have H6 := Lib.hid (And.intro (H5.out.1.kept (hb6.block pb H5.out.1.lt)) (And.intro hqs (And.intro hqa (H5.out.2.2.2.below hb6))))
        clear hqs hqn hb6 hqa
        go_wp2_with fail
        refine (s_logs H6.out.2.2.2 (by have := H4.out.2.1; omega) H4.out.2.2).mono ?_
        rintro e w7 ⟨tb, tc7, rfl, hl7, hb7⟩
        have H7 := Lib.hid (And.intro hl7 (And.intro hb7 (H6.out.2.2.2.below hb7)))
        clear hl7 hb7
        go_wp2_with fail
        refine (r_logs H7.out.2.2 (by have := H4.out.2.1; omega) H4.out.2.2).mono ?_
        rintro e w8 ⟨tb8, tc8, rfl, hl8, hb8⟩
        have hsame := logs_same w8 tb tb8 tc7 tc8 (logsOf L').length (logsOf L') (H7.out.1.kept hb8) hl8 (by have := logsOf_le L'; have := H4.out.2.1; omega)
        have H8 := Lib.hid (And.intro hsame (And.intro hb8 (H7.out.2.2.below hb8)))
        clear hsame hl8 hb8
        go_wp2_with fail
        refine H8.out.1.mono ?_
        rintro e w9 ⟨rfl, hb9⟩
        have hb69 : Below w6.heap.size w6 w9 := by
          have g1 := H7.out.2.1
          have g2 := H8.out.2.1
          exact (g1.trans (g2.mono g1.size)).trans (hb9.mono (Nat.le_trans g1.size g2.size))
        have H9 := Lib.hid (And.intro (H6.out.1.kept (hb69.block pb H6.out.1.lt)) (And.intro (H6.out.2.1.below hb69) (H8.out.2.2.below hb9)))
        clear hb9 hb69
        go_wp2_with fail
        refine (s_total' H9.out.2.2).mono ?_
        rintro e w10 ⟨rfl, rfl⟩
        go_wp2_with fail
        refine (r_total' H9.out.2.2 (by have := H4.out.2.1; omega)).mono ?_
        rintro e w11 ⟨rfl, rfl⟩
        go_wp2_with fail
        refine (s_mark' H9.out.2.2).mono ?_
        rintro e w12 ⟨rfl, rfl⟩
        go_wp2_with fail
        refine (r_mark' H9.out.2.2).mono ?_
        rintro e w13 ⟨rfl, rfl⟩
        go_wp2_with fail
        have hnpI : (np : Int) ≤ 100 := by
          have h1 : (namesOf L').length ≤ L'.length := Nat.le_trans (List.length_filterMap_le _ _) (List.length_filterMap_le _ _)
          have h2 := H5.out.2.1
          have h3 := H4.out.2.1
          rw [sortN_ins] at h2
          have h4 := congrArg List.length h2
          rw [insAll_length, ← Hnp.out] at h4
          omega
        obtain ⟨wo, rfl⟩ : ∃ wo : World, wo = w9 := ⟨_, rfl⟩
        go_loopw [11] (fun i wx => ∃ k : Nat, i = .int .i64 k ∧ (k : Int) ≤ np ∧ Below wo.heap.size wo wx) (fun i _ => np - (intOf i).toNat)
        case atStart => exact ⟨0, rfl, by omega, Below.refl _ _⟩
        case round =>
          obtain ⟨k, rfl, hk, hbx⟩ := hrel
          have hk0 : (0 : Int) ≤ (k : Int) := by omega
          by_cases hkn : (k : Int) < (np : Int)
          · have hkl : k < qs.length := by have := Hnp.out; omega
            have c1 := (H9.out.1.kept (hbx.block pb H9.out.1.lt)).cell k hkl
            obtain ⟨g, hg, hcell⟩ := (H9.out.2.1.below hbx).cell k (by rw [strs_length]; exact hkl)
            have c2 : wr.cell? ⟨g, k, none⟩ = some (.string qs[k]) := by rw [hcell]; simp [strs]
            have ea : qa = some ⟨g, 0, none⟩ := by rw [H6.out.2.2.1, hg]; rfl
            obtain ⟨y, hy⟩ : ∃ y, y = qs[k] := ⟨_, rfl⟩
            rw [← hy] at c1 c2
            have g1 : (!(y.toList == y.toList)) = false := by simp
            have Hbx := Lib.hid hbx
            subst ea
            clear hbx hg hcell hy
            go_upto_region 20 with fail
            go_quiet (fail)
            go_wp2_with fail
            exact ⟨⟨k + 1, by go_num, by omega, Hbx.out.trans ⟨rfl, rfl, rfl, Nat.le_refl _, fun _ _ => rfl⟩⟩, by simp [intOf]; omega⟩
          · have Hbx := Lib.hid hbx
            clear hbx
            go_wp2_with fail
            exact ⟨⟨j + 1, L', by go_num, by omega, by omega, H9.out.2.2.below Hbx.out, H4.out.2.1, H4.out.2.2⟩, by simp [intOf]; omega⟩
      · go_wp2_with fail
        go_ret
        exact ⟨rfl, HR.out.pair.world⟩
    · go_wp2_with fail
      go_ret
      exact ⟨rfl, HR.out.pair.world⟩
end Go.Proofs.Ytgjaennilkhejaa

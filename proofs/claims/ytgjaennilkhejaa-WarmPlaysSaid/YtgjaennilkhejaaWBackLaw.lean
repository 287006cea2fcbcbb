/- The walk of the law WarmBack. No condition but what each argument is. -/
import Derived.Test.YtgjaennilkhejaaWLArg
import Derived.Test.YtgjaennilkhejaaWLogs
import Derived.Test.YtgjaennilkhejaaWNames
namespace Go.Proofs.Ytgjaennilkhejaa
open Go.RowKit
attribute [local go_sem ↓] Go.wp_at_zero Go.wp_at_succ
theorem noteL_cases (f : Fin 4) (v : Value) (L : List Ch) : noteL f v L = L ∨ noteL f v L = L ++ [.key f v] := by
  by_cases h : v ∈ keysOf f L
  · exact .inl (noteL_had h)
  · exact .inr (noteL_new h)
theorem logsOf_note (f : Fin 4) (v : Value) (L : List Ch) : logsOf (noteL f v L) = logsOf L := by
  rcases noteL_cases f v L with h | h
  · rw [h]
  · rw [h, logsOf_snoc]; simp [logIn]
theorem tot_note (f : Fin 4) (v : Value) (L : List Ch) : tot (noteL f v L) = tot L := by
  rcases noteL_cases f v L with h | h
  · rw [h]
  · rw [h, tot_snoc]; rfl
theorem keysOf_note_ne {f f' : Fin 4} (v : Value) (L : List Ch) (e : f' ≠ f) : keysOf f' (noteL f v L) = keysOf f' L := by
  rcases noteL_cases f v L with h | h
  · rw [h]
  · rw [h, keysOf_ne _ _ e]
theorem hasK_refund (f : Fin 4) (v : Value) (L : List Ch) (n : Int) : hasK f v (L ++ [.refund n]) = hasK f v L := by unfold hasK; rw [keysOf_refund]
theorem hasK_log (f : Fin 4) (v : Value) (L : List Ch) (l : Lg) : hasK f v (L ++ [.log l]) = hasK f v L := by unfold hasK; rw [keysOf_log]
theorem logsOf_refund (L : List Ch) (n : Int) : logsOf (L ++ [.refund n]) = logsOf L := by rw [logsOf_snoc]; simp [logIn]
theorem logsOf_log (L : List Ch) (l : Lg) : logsOf (L ++ [.log l]) = logsOf L ++ [l] := by rw [logsOf_snoc]; simp [logIn]
theorem tot_refund (L : List Ch) (n : Int) : tot (L ++ [.refund n]) = wrap64 (tot L + n) := by rw [tot_snoc]; rfl
theorem tot_log (L : List Ch) (l : Lg) : tot (L ++ [.log l]) = tot L := by rw [tot_snoc]; rfl
theorem noteL_prefix {L0 : List Ch} (f : Fin 4) (v : Value) {L : List Ch} (h : L0 <+: L) : L0 <+: noteL f v L := by
  rcases noteL_cases f v L with e | e
  · rw [e]; exact h
  · rw [e]; exact h.trans (List.prefix_append _ _)
theorem take_prefix {L0 L : List Ch} (h : L0 <+: L) : L.take L0.length = L0 := by
  obtain ⟨r, rfl⟩ := h
  simp
theorem boxes3 (w : World) (x y z : Obj) (W : World) (hW : W = ((w.alloc x).alloc y).alloc z) : W.heap[w.heap.size]? = some x ∧ W.heap[w.heap.size + 1]? = some y ∧ W.heap[w.heap.size + 1 + 1]? = some z ∧ Below w.heap.size w W := by
  obtain ⟨W2, hW2⟩ : ∃ W2, W2 = (w.alloc x).alloc y := ⟨_, rfl⟩
  rw [← hW2] at hW
  obtain ⟨h1, h2, h3⟩ := boxes2 w x y W2 hW2
  have hs : W2.heap.size = w.heap.size + 1 + 1 := by rw [hW2, World.size_alloc, World.size_alloc]
  have hb : Below W2.heap.size W2 W := by rw [hW]; exact (Below.refl _ _).alloc (Nat.le_refl _) _
  refine ⟨(hb.block _ (by omega)).trans h1, (hb.block _ (by omega)).trans h2, ?_, h3.trans (hb.mono (by omega))⟩
  rw [hW, ← hs, heap_alloc_new]
/-- A log's cells in a block. -/
def LBox (w : World) (b : Nat) (l : Lg) (a : Option Addr) (c : Nat) : Prop := w.heap[b]? = some (.cells #[.string l.addr, .slice a l.topics.length c, .string l.data] 34 (0, 0)) ∧ VArg 4 w a c l.topics.length (W4s l.topics)
theorem LBox.below {w w' : World} {b : Nat} {l : Lg} {a : Option Addr} {c : Nat} (h : LBox w b l a c) (hb : Below w.heap.size w w') : LBox w' b l a c := ⟨(hb.block _ (lt_of_block h.1)).trans h.1, h.2.below hb⟩
theorem LBox.cells {w : World} {b : Nat} {l : Lg} {a : Option Addr} {c : Nat} (h : LBox w b l a c) : w.cell? ⟨b, 0, none⟩ = some (.string l.addr) ∧ w.cell? ⟨b, 1, none⟩ = some (.slice a l.topics.length c) ∧ w.cell? ⟨b, 2, none⟩ = some (.string l.data) := by
  refine ⟨?_, ?_, ?_⟩ <;> (rw [cell_of_row _ _ _ _ _ _ h.1]; rfl)
theorem LBox.built {w : World} {b : Nat} {l : Lg} {a : Option Addr} {c : Nat} (h : LBox w b l a c) (hl : (l.topics.length : Int) ≤ 281474976710656) :
    LogsAt (w.alloc (.cells #[.string l.addr, .slice a l.topics.length c, .string l.data] 34 (0, 0))) (some w.heap.size) 1 [l] := by
  refine ⟨rfl, fun i hi => ?_⟩
  have hi0 : i = 0 := by simpa using hi
  subst hi0
  have hb : Below w.heap.size w (w.alloc (.cells #[.string l.addr, .slice a l.topics.length c, .string l.data] 34 (0, 0))) := (Below.refl _ _).alloc (Nat.le_refl _) _
  have hn := heap_alloc_new w (.cells #[.string l.addr, .slice a l.topics.length c, .string l.data] 34 (0, 0))
  refine ⟨w.heap.size, a, c, rfl, by rw [World.size_alloc]; omega, ?_, ?_, ?_, h.2.below hb, hl⟩
  · rw [cell_of_row _ _ _ _ _ _ hn]; rfl
  · rw [cell_of_row _ _ _ _ _ _ hn]; rfl
  · rw [cell_of_row _ _ _ _ _ _ hn]; rfl
theorem wrap_two (n m : Int) (h : -9223372036854775808 ≤ n ∧ n ≤ 9223372036854775807) : wrap64 (0 + n) = n ∧ wrap64 (wrap64 (0 + n) + m) = wrap64 (n + m) := by unfold wrap64; omega
theorem wf_i64 {n : Int} (h : (Lit.int .i64 n).wf = true) : -9223372036854775808 ≤ n ∧ n ≤ 9223372036854775807 := by
  simp only [Lit.wf, IntKind.min, IntKind.max, IntKind.signed, IntKind.bits, Bool.and_eq_true, decide_eq_true_eq, if_true] at h
  omega
theorem sortN_length (l : List ByteArray) : (sortN l).length = l.length := by simp [sortN]
theorem has_first (f a : ByteArray) (L3 : List Ch) (h : keysOf 0 L3 = [.string f]) : hasK 0 (.string (f ++ a)) L3 = a.toList.isEmpty := by
  have ht : a.toList = a.data.toList := ByteArray.toList_eq a
  have hsz : a.data.toList.length = a.size := by rw [Array.length_toList]; rfl
  by_cases h0 : a.size = 0
  · have e1 : a.data.toList = [] := List.length_eq_zero_iff.1 (by omega)
    have e2 : f ++ a = f := by
      apply ByteArray.ext
      rw [ByteArray.data_append]
      apply Array.toList_inj.1
      rw [Array.toList_append, e1, List.append_nil]
    rw [ht, e1, e2]
    exact hasK_true (by rw [h]; simp)
  · have e1 : a.data.toList ≠ [] := fun e => h0 (by rw [← hsz, e]; rfl)
    rw [ht, hasK_false (fun hin => ?_)]
    · cases hh : a.data.toList with
      | nil => exact absurd hh e1
      | cons x r => rfl
    · rw [h, List.mem_singleton] at hin
      have := congrArg ByteArray.size (Value.string.inj hin)
      rw [ByteArray.size_append] at this
      omega
/-- What the law asks of the changes. -/
theorem back_facts (X : Value) (f : Value) (hf : StrOk f) (a : ByteArray) (k : W4) (n m : Int) (l g : Lg) (hn : -9223372036854775808 ≤ n ∧ n ≤ 9223372036854775807) (L3 L8 : List Ch) (h3 : L3 = [] ++ [.key 0 f] ++ [.refund n] ++ [.log l])
    (h8 : L8 = noteL 3 (.string a) (noteL 1 (slotV a k) (noteL 0 X L3) ++ [.refund m] ++ [.log g])) :
    logsOf L8 = [l, g] ∧ (namesOf L8).length = 1 ∧ tot L8 = wrap64 (n + m) ∧ hasK 1 (slotV a k) L8 = true ∧ L8.take 3 = L3 ∧ L8.length ≤ 8 ∧ 3 ≤ L8.length ∧ logsOf L3 = [l] ∧ tot L3 = n ∧ namesOf L3 = [] ∧ hasK 1 (slotV a k) L3 = false ∧ hasK 0 f L3 = true := by
  have _ := hf
  have e1 : logsOf L3 = [l] := by rw [h3]; rfl
  have e2 : tot L3 = n := by rw [h3, tot_log, tot_refund]; exact (wrap_two n m hn).1
  have e3 : keysOf 3 L3 = [] := by rw [h3]; rfl
  have e4 : keysOf 1 L3 = [] := by rw [h3]; rfl
  have e5 : keysOf 0 L3 = [f] := by rw [h3]; rfl
  have l3 : L3.length = 3 := by rw [h3]; rfl
  have p8 : L3 <+: L8 := by
    rw [h8]
    exact noteL_prefix _ _ (((noteL_prefix _ _ (noteL_prefix _ _ (List.prefix_refl L3))).trans (List.prefix_append _ _)).trans (List.prefix_append _ _))
  have hk3 : keysOf 3 (noteL 1 (slotV a k) (noteL 0 X L3) ++ [.refund m] ++ [.log g]) = [] := by
    rw [keysOf_log, keysOf_refund, keysOf_note_ne _ _ (by decide), keysOf_note_ne _ _ (by decide), e3]
  refine ⟨?_, ?_, ?_, ?_, ?_, ?_, ?_, e1, e2, by unfold namesOf; rw [e3]; rfl, hasK_false (by rw [e4]; simp), hasK_true (by rw [e5]; simp)⟩
  · rw [h8, logsOf_note, logsOf_log, logsOf_refund, logsOf_note, logsOf_note, e1]; rfl
  · rw [h8, noteL_new (by rw [hk3]; simp)]
    unfold namesOf
    rw [keysOf_key, hk3]
    rfl
  · rw [h8, tot_note, tot_log, tot_refund, tot_note, tot_note, e2]
  · rw [h8, hasK_note_ne _ _ _ (by decide), hasK_log, hasK_refund]
    exact noteL_hasK _ _ _
  · rw [← l3]; exact take_prefix p8
  · have h1 := noteL_length 0 X L3
    have h2 := noteL_length 1 (slotV a k) (noteL 0 X L3)
    have h4 := noteL_length 3 (.string a) (noteL 1 (slotV a k) (noteL 0 X L3) ++ [.refund m] ++ [.log g])
    rw [h8]
    simp only [List.length_append, List.length_cons, List.length_nil] at h4
    omega
  · have := p8.length_le; omega
set_option maxRecDepth 100000 in
set_option maxHeartbeats 6400000 in
theorem back_walk (a : ByteArray) (k : W4) (n m : Int) (l g : Lg) (la ga : Option Addr) (lc gc : Nat) (w : World) (ha : a.size ≤ maxLen) (ha2 : a.size ≤ 140737488351232) (hk : k.wf) (hn : (Lit.int .i64 n).wf = true) (hm : (Lit.int .i64 m).wf = true)
    (hl : VArg 4 w la lc l.topics.length (W4s l.topics)) (hl2 : l.topics.length * 32 ≤ 140737488351232) (hg : VArg 4 w ga gc g.topics.length (W4s g.topics)) (hg2 : g.topics.length * 32 ≤ 140737488351232) :
    Calls Try.prog 6 #[.string a, .agg #[.int .u64 k.a, .int .u64 k.b, .int .u64 k.c, .int .u64 k.d], .int .i64 n, .int .i64 m, .agg #[.string l.addr, .slice la l.topics.length lc, .string l.data], .agg #[.string g.addr, .slice ga g.topics.length gc, .string g.data]] w
      fun e w' => e = .returned (.bool true) ∧ Below w.heap.size w w' := by
  have sak := slot_ok ha hk
  obtain ⟨W2, hW2⟩ : ∃ W2, W2 = ((w.alloc (.cells #[.int .u64 k.a, .int .u64 k.b, .int .u64 k.c, .int .u64 k.d] 24 (0, 0))).alloc (.cells #[.string l.addr, .slice la l.topics.length lc, .string l.data] 34 (0, 0))).alloc (.cells #[.string g.addr, .slice ga g.topics.length gc, .string g.data] 34 (0, 0)) := ⟨_, rfl⟩
  obtain ⟨o1, o2, o3, hbw⟩ := boxes3 w _ _ _ _ hW2
  have ol : LBox W2 (w.heap.size + 1) l la lc := ⟨o2, hl.below hbw⟩
  have og : LBox W2 (w.heap.size + 1 + 1) g ga gc := ⟨o3, hg.below hbw⟩
  have hbox : ∀ {wx : World} {s : Nat} {L : List Ch}, One W2 wx s L → WBox wx w.heap.size k ∧ LBox wx (w.heap.size + 1) l la lc ∧ LBox wx (w.heap.size + 1 + 1) g ga gc := fun h => ⟨WBox.below o1 h.world, ol.below h.world, og.below h.world⟩
  have hex := examples11 W2
  have hnew := fun (w1 : World) (hb : Below W2.heap.size W2 w1) => new_any hb
  have HX := Lib.hid (And.intro (@hbox) (And.intro hnew (And.intro sak (And.intro hbw (And.intro hl2 (And.intro hg2 (And.intro hn hm)))))))
  obtain ⟨ln, hln⟩ : ∃ ln, ln = l.topics.length := ⟨_, rfl⟩
  obtain ⟨gn, hgn⟩ : ∃ gn, gn = g.topics.length := ⟨_, rfl⟩
  rw [← hln, ← hgn] at hW2 ⊢
  have HN := Lib.hid (And.intro hln hgn)
  have HW2 := Lib.hid hW2
  have Hex := Lib.hid hex
  clear hbox hnew sak hex hW2 hbw o1 o2 o3 ol og hk ha hn hm hl hl2 hg hg2 hln hgn
  go_enter Try.func6, Try.ntmps6
  go_upto_region 1 with fail
  rw [← HW2.out]
  go_wp2_with fail
  refine Hex.out.mono ?_
  rintro e w1 ⟨rfl, hb1⟩
  have hn := HX.out.2.1 w1 hb1
  have Hn := Lib.hid hn
  clear hn hb1 Hex
  go_wp2_with fail
  refine Hn.out.mono ?_
  rintro e w2 ⟨s, rfl, h2⟩
  have ha := addr_one h2 ⟨#[102, 105, 114, 115, 116]⟩ (by simp)
  rw [hasK_nil, noteL_new (by simp [keysOf])] at ha
  have Ha := Lib.hid ha
  clear ha h2 Hn
  go_wp2_with fail
  refine Ha.out.mono ?_
  rintro e w3 ⟨rfl, h3⟩
  have hr := refund_one h3 n (by simp)
  have Hr := Lib.hid hr
  clear hr h3 Ha
  go_wp2_with fail
  refine Hr.out.mono ?_
  rintro e w4 ⟨rfl, h4⟩
  obtain ⟨k0, k1, k2⟩ := (HX.out.1 h4).2.1.cells
  rw [← HN.out.1] at k1
  have hlg := log_one h4 l la lc (HX.out.1 h4).2.1.2 (by have := HX.out.2.2.2.2.1; omega) (by simp)
  rw [← HN.out.1] at hlg
  have Hl := Lib.hid hlg
  clear hlg h4 Hr
  go_wp2_with fail
  refine Hl.out.mono ?_
  rintro e w5 ⟨rfl, h5⟩
  clear k0 k1 k2
  obtain ⟨L3, hL3⟩ : ∃ L3 : List Ch, L3 = [] ++ [.key 0 (.string ⟨#[102, 105, 114, 115, 116]⟩)] ++ [.refund n] ++ [.log l] := ⟨_, rfl⟩
  rw [← hL3] at h5
  have l3 : L3.length = 3 := by rw [hL3]; rfl
  have hmk := mark_one h5
  rw [l3] at hmk
  have Hmk := Lib.hid (And.intro hmk h5)
  clear hmk h5 Hl
  go_wp2_with fail
  refine Hmk.out.1.mono ?_
  rintro e w6 ⟨rfl, rfl⟩
  have hz : hasK 0 (.string (⟨#[102, 105, 114, 115, 116]⟩ ++ a)) L3 = a.toList.isEmpty := has_first _ a L3 (by rw [hL3]; rfl)
  have ha := addr_one Hmk.out.2 (⟨#[102, 105, 114, 115, 116]⟩ ++ a) (by omega)
  rw [hz] at ha
  have Ha := Lib.hid ha
  have HZ := Lib.hid (And.intro hz (And.intro hL3 l3))
  clear ha hz hL3 l3 Hmk
  go_wp2_with fail
  refine Ha.out.mono ?_
  rintro e w7 ⟨rfl, h7⟩
  obtain ⟨k0, k1, k2, k3⟩ := (HX.out.1 h7).1.cells
  have l4 := noteL_length 0 (.string (⟨#[102, 105, 114, 115, 116]⟩ ++ a)) L3
  have l3 := HZ.out.2.2
  have hs := slot_one h7 a k HX.out.2.2.1 (by omega)
  have Hs := Lib.hid hs
  have HL4 := Lib.hid l4
  clear hs h7 Ha l3 l4
  go_wp2_with fail
  refine Hs.out.mono ?_
  rintro e w8 ⟨rfl, h8⟩
  clear k0 k1 k2 k3
  obtain ⟨L5, hL5⟩ : ∃ L5, L5 = noteL 1 (slotV a k) (noteL 0 (.string (⟨#[102, 105, 114, 115, 116]⟩ ++ a)) L3) := ⟨_, rfl⟩
  obtain ⟨q1, hq1⟩ : ∃ q1, q1 = hasK 1 (slotV a k) (noteL 0 (.string (⟨#[102, 105, 114, 115, 116]⟩ ++ a)) L3) := ⟨_, rfl⟩
  rw [← hL5] at h8
  rw [← hq1]
  have l5 : L5.length ≤ 5 := by
    have h1 := noteL_length 1 (slotV a k) (noteL 0 (.string (⟨#[102, 105, 114, 115, 116]⟩ ++ a)) L3)
    have h2 := HL4.out
    have h3 := HZ.out.2.2
    rw [hL5]; omega
  have hr := refund_one h8 m (by omega)
  have Hr := Lib.hid hr
  have HL5 := Lib.hid (And.intro hL5 l5)
  clear hr h8 Hs hL5 l5 hq1
  go_wp2_with fail
  refine Hr.out.mono ?_
  rintro e w9 ⟨rfl, h9⟩
  obtain ⟨k0, k1, k2⟩ := (HX.out.1 h9).2.2.cells
  rw [← HN.out.2] at k1
  have hlg := log_one h9 g ga gc (HX.out.1 h9).2.2.2 (by have := HX.out.2.2.2.2.2.1; omega) (by have := HL5.out.2; simp; omega)
  rw [← HN.out.2] at hlg
  have Hl := Lib.hid hlg
  clear hlg h9 Hr
  go_wp2_with fail
  refine Hl.out.mono ?_
  rintro e w10 ⟨rfl, h10⟩
  clear k0 k1 k2
  have hgo := gone_one h10 a (by have := HL5.out.2; simp; omega)
  have Hg := Lib.hid hgo
  clear hgo h10 Hl
  go_wp2_with fail
  refine Hg.out.mono ?_
  rintro e w11 ⟨rfl, h11⟩
  obtain ⟨L8, hL8⟩ : ∃ L8, L8 = noteL 3 (.string a) (L5 ++ [.refund m] ++ [.log g]) := ⟨_, rfl⟩
  rw [← hL8] at h11
  obtain ⟨f1, f2, f3, f4, f5, f6, f7, f8, f9, f10, f11, f12⟩ := back_facts (.string (⟨#[102, 105, 114, 115, 116]⟩ ++ a)) (.string ⟨#[102, 105, 114, 115, 116]⟩) ⟨_, rfl⟩ a k n m l g (wf_i64 HX.out.2.2.2.2.2.2.1) L3 L8 HZ.out.2.1 (by rw [← HL5.out.1]; exact hL8)
  have hlt : (l.topics.length : Int) ≤ 281474976710656 := by have := HX.out.2.2.2.2.1; omega
  have hgt : (g.topics.length : Int) ≤ 281474976710656 := by have := HX.out.2.2.2.2.2.1; omega
  have hlogs := logs_one h11 (by omega) (fun x hx => by
    rw [f1] at hx
    simp only [List.mem_cons, List.not_mem_nil, or_false] at hx
    rcases hx with rfl | rfl
    · exact hlt
    · exact hgt)
  rw [f1] at hlogs
  have Hlogs := Lib.hid hlogs
  have HF := Lib.hid (And.intro f1 (And.intro f2 (And.intro f3 (And.intro f4 (And.intro f5 (And.intro f6 (And.intro f7 (And.intro f8 (And.intro f9 (And.intro f10 (And.intro f11 (And.intro f12 (And.intro hlt hgt)))))))))))))
  clear hlogs h11 f1 f2 f3 f4 f5 f6 f7 f8 f9 f10 f11 f12 hL8 hlt hgt Hg
  go_wp2_with fail
  refine Hlogs.out.mono ?_
  rintro e w12 ⟨tb, tc, rfl, _, h12, _⟩
  obtain ⟨ta, hta⟩ : ∃ ta : Option Addr, ta = tb.map fun b => ⟨b, 0, none⟩ := ⟨_, rfl⟩
  rw [← hta]
  have hlv := leaving_one h12 (by have := HF.out.2.2.2.2.2.1; omega)
  have Hlv := Lib.hid hlv
  clear hlv h12 hta Hlogs
  go_wp2_with fail
  refine Hlv.out.mono ?_
  rintro e w13 ⟨lb, lcp, ns, rfl, _, hns, h13, _⟩
  have hnl : ns.length = 1 := by rw [hns, sortN_length]; exact HF.out.2.1
  rw [hnl]
  have htt := total_one h13
  rw [HF.out.2.2.1] at htt
  have Htt := Lib.hid (And.intro htt h13)
  clear htt h13 Hlv hns hnl
  go_wp2_with fail
  refine Htt.out.1.mono ?_
  rintro e w14 ⟨rfl, rfl⟩
  obtain ⟨k0, k1, k2, k3⟩ := (HX.out.1 Htt.out.2).1.cells
  have hs := hasSlot_one Htt.out.2 a k HX.out.2.2.1
  rw [HF.out.2.2.2.1] at hs
  have Hs := Lib.hid hs
  clear hs Htt
  go_wp2_with fail
  refine Hs.out.mono ?_
  rintro e w15 ⟨rfl, h15⟩
  clear k0 k1 k2 k3
  have hbk := back_one h15 3 HF.out.2.2.2.2.2.2.1 (by have := HF.out.2.2.2.2.2.1; omega)
  rw [HF.out.2.2.2.2.1] at hbk
  have Hbk := Lib.hid hbk
  clear hbk h15 Hs
  go_wp2_with fail
  refine Hbk.out.mono ?_
  rintro e w16 ⟨rfl, h16⟩
  obtain ⟨k0, k1, k2⟩ := (HX.out.1 h16).2.1.cells
  have hLg : ∀ wx : World, One W2 wx s L3 → Calls Try.prog 17 #[.pointer (some ⟨s, 0, none⟩)] wx fun e w' => ∃ (tb : Option Nat) (tc : Nat), e = .returned (.slice (tb.map fun b => ⟨b, 0, none⟩) 1 tc) ∧ LogsAt w' tb 1 [l] ∧ One W2 w' s L3 ∧ Below wx.heap.size wx w' := fun wx hx => by
    have h := logs_one hx (by have := HZ.out.2.2; omega) (fun x hx => by
      rw [HF.out.2.2.2.2.2.2.2.1] at hx
      rw [List.mem_singleton.1 hx]; exact HF.out.2.2.2.2.2.2.2.2.2.2.2.2.1)
    rw [HF.out.2.2.2.2.2.2.2.1] at h
    exact h
  have hSm : ∀ (wx : World) (tb : Option Nat) (tc B : Nat), LogsAt wx tb 1 [l] → LogsAt wx (some B) 1 [l] → Calls Try.prog 16 #[.slice (tb.map fun b => ⟨b, 0, none⟩) 1 tc, .slice (some ⟨B, 0, none⟩) 1 1] wx fun e w' => e = .returned (.bool true) ∧ Below wx.heap.size wx w' :=
    fun wx tb tc B h1 h2 => logs_same wx tb (some B) tc 1 1 [l] h1 h2 (by omega)
  have hS1 : (w16.drew.cell? ⟨w.heap.size + 1, 0, none⟩ = some (.string l.addr) ∧ w16.drew.cell? ⟨w.heap.size + 1, 1, none⟩ = some (.slice la ln lc) ∧ w16.drew.cell? ⟨w.heap.size + 1, 2, none⟩ = some (.string l.data) ∧ One W2 w16.drew s L3) := by
    rw [← HN.out.1] at k1
    exact ⟨k0, k1, k2, h16.below ((Below.refl _ _).drew)⟩
  have hSo : ∀ wx : World, One W2 wx s L3 → (wx.cell? ⟨w.heap.size + 1, 0, none⟩ = some (.string l.addr) ∧ wx.cell? ⟨w.heap.size + 1, 1, none⟩ = some (.slice la ln lc) ∧ wx.cell? ⟨w.heap.size + 1, 2, none⟩ = some (.string l.data) ∧ One W2 wx s L3) := fun wx hx => by
    obtain ⟨k0, k1, k2⟩ := (HX.out.1 hx).2.1.cells
    rw [← HN.out.1] at k1
    exact ⟨k0, k1, k2, hx⟩
  have hBt : ∀ wx : World, One W2 wx s L3 → LogsAt (wx.alloc (.cells #[.string l.addr, .slice la ln lc, .string l.data] 34 (0, 0))) (some wx.heap.size) 1 [l] := fun wx hx => by
    rw [HN.out.1]; exact (HX.out.1 hx).2.1.built HF.out.2.2.2.2.2.2.2.2.2.2.2.2.1
  have HLg := Lib.hid hLg
  have HSm := Lib.hid hSm
  have HSo := Lib.hid hSo
  have HBt := Lib.hid hBt
  have H16 := Lib.hid h16
  clear hLg hSm hSo hBt h16 Hbk
  go_upto_region 18 with fail
  go_cut [19] (fun v wx => v = .bool true ∧ One W2 wx s L3)
  case first =>
    go_region_held3 (fun w' => w'.cell? ⟨w.heap.size + 1, 0, none⟩ = some (.string l.addr) ∧ w'.cell? ⟨w.heap.size + 1, 1, none⟩ = some (.slice la ln lc) ∧ w'.cell? ⟨w.heap.size + 1, 2, none⟩ = some (.string l.data) ∧ One W2 w' s L3) (first | assumption | exact hS1 | exact HSo.out _ ((hO.below ((Below.refl _ _).alloc (Nat.le_refl _) _)).below hbx2) | exact HSo.out _ (hO.below hbx2) | exact HSo.out _ hO | exact HSo.out _ (hO.below ((Below.refl _ _).alloc (Nat.le_refl _) _)) | exact HSo.out _ (H16.out.below (((Below.refl _ _).alloc (Nat.le_refl _) _).drew))) (first | (go_at_call 17; (first | (with_reducible refine (HLg.out _ hS1.2.2.2).mono ?_) | (with_reducible refine (HLg.out _ (H16.out.below (((Below.refl _ _).alloc (Nat.le_refl _) _).drew))).mono ?_)); (rintro e wx ⟨tb, tc, rfl, hLA, hO, hbx⟩)) | (go_at_call 16; (first | (with_reducible refine (HSm.out _ _ _ _ (hLA.kept ((Below.refl _ _).alloc (Nat.le_refl _) _)) (HBt.out _ hO)).mono ?_) | (with_reducible refine (HSm.out _ _ _ _ hLA (((HBt.out _ H16.out).kept ((Below.refl _ _).drew)).kept hbx)).mono ?_)); (rintro e wx2 ⟨rfl, hbx2⟩)))
    all_goals go_wp2_with fail
    all_goals go_meet
    all_goals rename_i hS
    all_goals exact ⟨rfl, hS.2.2.2⟩
  case rest =>
    obtain ⟨rfl, h17⟩ := hcut
    have htt := total_one h17
    rw [HF.out.2.2.2.2.2.2.2.2.1] at htt
    have Htt := Lib.hid (And.intro htt h17)
    clear htt h17 hS1 k0 k1 k2
    go_wp2_with fail
    refine Htt.out.1.mono ?_
    rintro e w18 ⟨rfl, rfl⟩
    have hlv := leaving_one Htt.out.2 (by have := HZ.out.2.2; omega)
    have Hlv := Lib.hid hlv
    clear hlv Htt
    go_wp2_with fail
    refine Hlv.out.mono ?_
    rintro e w19 ⟨lb2, lcp2, ns2, rfl, _, hns, h19, _⟩
    have hnl : ns2.length = 0 := by rw [hns, sortN_length, HF.out.2.2.2.2.2.2.2.2.2.1]; rfl
    rw [hnl]
    obtain ⟨k0, k1, k2, k3⟩ := (HX.out.1 h19).1.cells
    have hs := hasSlot_one h19 a k HX.out.2.2.1
    rw [HF.out.2.2.2.2.2.2.2.2.2.2.1] at hs
    have Hs := Lib.hid hs
    clear hs h19 Hlv hns hnl
    go_wp2_with fail
    refine Hs.out.mono ?_
    rintro e w20 ⟨rfl, h20⟩
    clear k0 k1 k2 k3
    have hh := hasAddr_one h20 ⟨#[102, 105, 114, 115, 116]⟩
    rw [HF.out.2.2.2.2.2.2.2.2.2.2.2.1] at hh
    have Hh := Lib.hid hh
    clear hh h20 Hs
    go_wp2_with fail
    refine Hh.out.mono ?_
    rintro e w21 ⟨rfl, h21⟩
    have hh := hasAddr_one h21 (⟨#[102, 105, 114, 115, 116]⟩ ++ a)
    rw [HZ.out.1] at hh
    have Hh2 := Lib.hid hh
    clear hh h21 Hh
    go_wp2_with fail
    refine Hh2.out.mono ?_
    rintro e w22 ⟨rfl, h22⟩
    have hmk := mark_one h22
    rw [HZ.out.2.2] at hmk
    have Hmk := Lib.hid (And.intro hmk h22.world)
    clear hmk h22 Hh2
    go_wp2_with fail
    refine Hmk.out.1.mono ?_
    rintro e w23 ⟨rfl, rfl⟩
    go_wp2_with fail
    go_ret
    exact ⟨rfl, HX.out.2.2.2.1.trans (Hmk.out.2.mono HX.out.2.2.2.1.size)⟩
end Go.Proofs.Ytgjaennilkhejaa

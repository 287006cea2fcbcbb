/- The set of package warm and the reference's, side by side in memory: what each deed makes of both. The bound: at most 10^6 changes. -/
import Derived.Test.YtgjaennilkhejaaWRefLeave
namespace Go.Proofs.Ytgjaennilkhejaa
open Go.RowKit
/-- The set s with the changes L, the reference's x with the changes M, and the blocks X that are neither's. -/
def Pair (W0 w : World) (s x : Nat) (L M : List Ch) (X : Nat → Prop) : Prop := ∃ K, RAt w x M K ∧ One3 W0 w s L (fun k => K k ∨ X k) ∧ ∀ k, X k → ¬ K k
def Keep (X : Nat → Prop) (w w' : World) : Prop := ∀ k, X k → w'.heap[k]? = w.heap[k]?
section
variable {W0 w w' : World} {s x : Nat} {L M : List Ch} {X : Nat → Prop}
theorem Pair.world (h : Pair W0 w s x L M X) : Below W0.heap.size W0 w := by
  obtain ⟨K, _, h2, _⟩ := h
  exact h2.world
theorem Pair.xlt (h : Pair W0 w s x L M X) {k : Nat} (hk : X k) : k < w.heap.size := by
  obtain ⟨K, _, ⟨F, _, _, _, h4⟩, _⟩ := h
  exact (h4 k (.inr hk)).2.1
theorem Pair.below (h : Pair W0 w s x L M X) (hb : Below w.heap.size w w') : Pair W0 w' s x L M X := by
  obtain ⟨K, h1, h2, h3⟩ := h
  exact ⟨K, h1.below hb, h2.below hb, h3⟩
theorem Pair.keep (h : Pair W0 w s x L M X) (hb : Below w.heap.size w w') : Keep X w w' := fun k hk => hb.block k (h.xlt hk)
/-- New blocks that are neither's. -/
theorem Pair.more (h : Pair W0 w s x L M X) (hb : Below w.heap.size w w') {X' : Nat → Prop} (hX : ∀ k, X' k → X k ∨ (w.heap.size ≤ k ∧ k < w'.heap.size)) : Pair W0 w' s x L M X' := by
  obtain ⟨K, h1, h2, h3⟩ := h
  refine ⟨K, h1.below hb, h2.grown hb.os hb.tape hb.output hb.size (fun k hk _ => hb.block k hk) (fun k hk => ?_), fun k hk hK => ?_⟩
  · rcases hk with r | r
    · exact .inl (.inl r)
    · rcases hX k r with q | q
      · exact .inl (.inr q)
      · exact .inr q
  · rcases hX k hk with q | q
    · exact h3 k q hK
    · have := h1.lt hK; omega
theorem Pair.less (h : Pair W0 w s x L M X) {X' : Nat → Prop} (hX : ∀ k, X' k → X k) : Pair W0 w s x L M X' := h.more (Below.refl _ _) fun k hk => .inl (hX k hk)
theorem Calls.pair_s {L' : List Ch} {f : FuncId} {args : Array Value} {E : Ending → Prop} (h : Pair W0 w s x L M X) (hc : ∀ F, At w s L F → Calls Try.prog f args w fun e w' => E e ∧ Turns w s F L' w') :
    Calls Try.prog f args w fun e w' => E e ∧ Pair W0 w' s x L' M X ∧ Keep X w w' := by
  obtain ⟨K, h1, h2, h3⟩ := h
  refine (Calls.one3 h2 hc).mono ?_
  rintro e w' ⟨he, k1, k2⟩
  exact ⟨he, ⟨K, h1.kept fun k hk => k2 k (.inl hk), k1, h3⟩, fun k hk => k2 k (.inr hk)⟩
theorem Calls.pair_r {M' : List Ch} {f : FuncId} {args : Array Value} {E : Ending → Prop} (h : Pair W0 w s x L M X) (hc : ∀ F, RAt w x M F → Calls Try.prog f args w fun e w' => E e ∧ RTurns w x F M' w') :
    Calls Try.prog f args w fun e w' => E e ∧ Pair W0 w' s x L M' X ∧ Keep X w w' := by
  have hlt := fun k (hk : X k) => h.xlt hk
  obtain ⟨K, h1, h2, h3⟩ := h
  refine (hc K h1).mono ?_
  rintro e w' ⟨he, F', k1, k2⟩
  have hK : Keep X w w' := fun k hk => k2.keep k (hlt k hk) (h3 k hk)
  refine ⟨he, ⟨F', k1, h2.grown k2.os k2.tape k2.output k2.size (fun k hk hn => k2.keep k hk fun hf => hn (.inl hf)) (fun k hk => ?_), fun k hk hf => ?_⟩, hK⟩
  · rcases hk with r | r
    · rcases k2.sub k r with q | q
      · exact .inl (.inl q)
      · exact .inr q
    · exact .inl (.inr r)
  · rcases k2.sub k hf with q | q
    · exact h3 k hk q
    · have := hlt k hk; omega
theorem Turns.below {F : Nat → Prop} (h : At w s L F) (hb : Below w.heap.size w w') : Turns w s F L w' := ⟨F, h.below hb, Eff.below hb⟩
theorem s_hasAddr (h : Pair W0 w s x L M X) (a : ByteArray) :
    Calls Try.prog 12 #[.pointer (some ⟨s, 0, none⟩), .string a] w fun e w' => e = .returned (.bool (hasK 0 (.string a) L)) ∧ Pair W0 w' s x L M X ∧ Keep X w w' := Calls.pair_s h fun F hF => by
  have hF0 := hF
  obtain ⟨g, gs, hC, rfl, rfl⟩ := hF
  exact (hasAddr_c hC a).mono fun e w' hx => ⟨hx.1, .below hF0 hx.2⟩
theorem r_hasAddr (h : Pair W0 w s x L M X) (a : ByteArray) (hlen : M.length < 1000000) :
    Calls Try.prog 36 #[.pointer (some ⟨x, 0, none⟩), .string a] w fun e w' => e = .returned (.bool (hasK 0 (.string a) M)) ∧ Pair W0 w' s x L M X ∧ Keep X w w' := Calls.pair_r h fun F hF => by
  have hF0 := hF
  obtain ⟨rb, cap, rs, hC, rfl, rfl⟩ := hF
  exact (rhasAddr_c hC a (by simpa [rabs] using hlen)).mono fun e w' hx => ⟨hx.1, .below hF0 hx.2⟩
theorem s_addr (h : Pair W0 w s x L M X) (a : ByteArray) (hlen : L.length < 1000000) :
    Calls Try.prog 14 #[.pointer (some ⟨s, 0, none⟩), .string a] w fun e w' => e = .returned (.bool (hasK 0 (.string a) L)) ∧ Pair W0 w' s x (noteL 0 (.string a) L) M X ∧ Keep X w w' := Calls.pair_s h fun F hF => by
  obtain ⟨g, gs, hC, rfl, rfl⟩ := hF
  exact addr_c hC a (by simpa [absL] using hlen)
theorem r_addr (h : Pair W0 w s x L M X) (a : ByteArray) (hlen : M.length < 1000000) :
    Calls Try.prog 37 #[.pointer (some ⟨x, 0, none⟩), .string a] w fun e w' => e = .returned (.bool (hasK 0 (.string a) M)) ∧ Pair W0 w' s x L (noteL 0 (.string a) M) X ∧ Keep X w w' := Calls.pair_r h fun F hF => by
  obtain ⟨rb, cap, rs, hC, rfl, rfl⟩ := hF
  exact raddr_c hC a (by simpa [rabs] using hlen)
theorem s_made (h : Pair W0 w s x L M X) (a : ByteArray) (hlen : L.length < 1000000) :
    Calls Try.prog 11 #[.pointer (some ⟨s, 0, none⟩), .string a] w fun e w' => e = .returned (.bool (hasK 2 (.string a) L)) ∧ Pair W0 w' s x (noteL 2 (.string a) L) M X ∧ Keep X w w' := Calls.pair_s h fun F hF => by
  obtain ⟨g, gs, hC, rfl, rfl⟩ := hF
  exact made_c hC a (by simpa [absL] using hlen)
theorem r_made (h : Pair W0 w s x L M X) (a : ByteArray) (hlen : M.length < 1000000) :
    Calls Try.prog 40 #[.pointer (some ⟨x, 0, none⟩), .string a] w fun e w' => e = .returned (.bool (hasK 2 (.string a) M)) ∧ Pair W0 w' s x L (noteL 2 (.string a) M) X ∧ Keep X w w' := Calls.pair_r h fun F hF => by
  obtain ⟨rb, cap, rs, hC, rfl, rfl⟩ := hF
  exact rmade_c hC a (by simpa [rabs] using hlen)
theorem s_gone (h : Pair W0 w s x L M X) (a : ByteArray) (hlen : L.length < 1000000) :
    Calls Try.prog 19 #[.pointer (some ⟨s, 0, none⟩), .string a] w fun e w' => e = .returned (.tuple #[]) ∧ Pair W0 w' s x (noteL 3 (.string a) L) M X ∧ Keep X w w' := Calls.pair_s h fun F hF => by
  obtain ⟨g, gs, hC, rfl, rfl⟩ := hF
  exact gone_c hC a (by simpa [absL] using hlen)
theorem r_gone (h : Pair W0 w s x L M X) (a : ByteArray) (hlen : M.length < 1000000) :
    Calls Try.prog 43 #[.pointer (some ⟨x, 0, none⟩), .string a] w fun e w' => e = .returned (.tuple #[]) ∧ Pair W0 w' s x L (noteL 3 (.string a) M) X ∧ Keep X w w' := Calls.pair_r h fun F hF => by
  obtain ⟨rb, cap, rs, hC, rfl, rfl⟩ := hF
  exact rgone_c hC a (by simpa [rabs] using hlen)
theorem s_hasSlot (h : Pair W0 w s x L M X) (a : ByteArray) (k : W4) (hok : SlotOk (slotV a k)) :
    Calls Try.prog 13 #[.pointer (some ⟨s, 0, none⟩), .string a, .agg #[.int .u64 k.a, .int .u64 k.b, .int .u64 k.c, .int .u64 k.d]] w fun e w' => e = .returned (.bool (hasK 1 (slotV a k) L)) ∧ Pair W0 w' s x L M X ∧ Keep X w w' := Calls.pair_s h fun F hF => by
  have hF0 := hF
  obtain ⟨g, gs, hC, rfl, rfl⟩ := hF
  exact (hasSlot_c hC a k hok).mono fun e w' hx => ⟨hx.1, .below hF0 hx.2⟩
theorem r_hasSlot (h : Pair W0 w s x L M X) (a : ByteArray) (k : W4) (hlen : M.length < 1000000) :
    Calls Try.prog 38 #[.pointer (some ⟨x, 0, none⟩), .string a, .agg #[.int .u64 k.a, .int .u64 k.b, .int .u64 k.c, .int .u64 k.d]] w fun e w' => e = .returned (.bool (hasK 1 (slotV a k) M)) ∧ Pair W0 w' s x L M X ∧ Keep X w w' := Calls.pair_r h fun F hF => by
  have hF0 := hF
  obtain ⟨rb, cap, rs, hC, rfl, rfl⟩ := hF
  exact (rhasSlot_c hC a k (by simpa [rabs] using hlen)).mono fun e w' hx => ⟨hx.1, .below hF0 hx.2⟩
theorem s_slot (h : Pair W0 w s x L M X) (a : ByteArray) (k : W4) (hok : SlotOk (slotV a k)) (hlen : L.length < 1000000) :
    Calls Try.prog 10 #[.pointer (some ⟨s, 0, none⟩), .string a, .agg #[.int .u64 k.a, .int .u64 k.b, .int .u64 k.c, .int .u64 k.d]] w fun e w' => e = .returned (.bool (hasK 1 (slotV a k) L)) ∧ Pair W0 w' s x (noteL 1 (slotV a k) L) M X ∧ Keep X w w' := Calls.pair_s h fun F hF => by
  obtain ⟨g, gs, hC, rfl, rfl⟩ := hF
  exact slot_c hC a k hok (by simpa [absL] using hlen)
theorem r_slot (h : Pair W0 w s x L M X) (a : ByteArray) (k : W4) (hlen : M.length < 1000000) :
    Calls Try.prog 39 #[.pointer (some ⟨x, 0, none⟩), .string a, .agg #[.int .u64 k.a, .int .u64 k.b, .int .u64 k.c, .int .u64 k.d]] w fun e w' => e = .returned (.bool (hasK 1 (slotV a k) M)) ∧ Pair W0 w' s x L (noteL 1 (slotV a k) M) X ∧ Keep X w w' := Calls.pair_r h fun F hF => by
  obtain ⟨rb, cap, rs, hC, rfl, rfl⟩ := hF
  exact rslot_c hC a k (by simpa [rabs] using hlen)
theorem s_refund (h : Pair W0 w s x L M X) (n : Int) (hlen : L.length < 1000000) :
    Calls Try.prog 22 #[.pointer (some ⟨s, 0, none⟩), .int .i64 n] w fun e w' => e = .returned (.tuple #[]) ∧ Pair W0 w' s x (L ++ [.refund n]) M X ∧ Keep X w w' := Calls.pair_s h fun F hF => by
  obtain ⟨g, gs, hC, rfl, rfl⟩ := hF
  exact refund_c hC n (by simpa [absL] using hlen)
theorem r_refund (h : Pair W0 w s x L M X) (n : Int) (hlen : M.length < 1000000) :
    Calls Try.prog 41 #[.pointer (some ⟨x, 0, none⟩), .int .i64 n] w fun e w' => e = .returned (.tuple #[]) ∧ Pair W0 w' s x L (M ++ [.refund n]) X ∧ Keep X w w' := Calls.pair_r h fun F hF => by
  obtain ⟨rb, cap, rs, hC, rfl, rfl⟩ := hF
  exact rrefund_c hC n (by simpa [rabs] using hlen)
theorem s_log (h : Pair W0 w s x L M X) (l : Lg) (ta : Option Addr) (cp : Nat) (hv : VArg 4 w ta cp l.topics.length (W4s l.topics)) (hby : l.topics.length * 32 ≤ 281474976710656) (hlen : L.length < 1000000) :
    Calls Try.prog 15 #[.pointer (some ⟨s, 0, none⟩), .agg #[.string l.addr, .slice ta l.topics.length cp, .string l.data]] w fun e w' => e = .returned (.tuple #[]) ∧ Pair W0 w' s x (L ++ [.log l]) M X ∧ Keep X w w' := Calls.pair_s h fun F hF => by
  obtain ⟨g, gs, hC, rfl, rfl⟩ := hF
  exact log_c hC l ta cp hv hby (by simpa [absL] using hlen)
theorem r_log (h : Pair W0 w s x L M X) (l : Lg) (ta : Option Addr) (cp : Nat) (hv : VArg 4 w ta cp l.topics.length (W4s l.topics)) (hby : l.topics.length * 32 ≤ 281474976710656) (hlen : M.length < 1000000) :
    Calls Try.prog 42 #[.pointer (some ⟨x, 0, none⟩), .agg #[.string l.addr, .slice ta l.topics.length cp, .string l.data]] w fun e w' => e = .returned (.tuple #[]) ∧ Pair W0 w' s x L (M ++ [.log l]) X ∧ Keep X w w' := Calls.pair_r h fun F hF => by
  obtain ⟨rb, cap, rs, hC, rfl, rfl⟩ := hF
  exact rlog_c hC l ta cp hv hby (by simpa [rabs] using hlen)
theorem s_back (h : Pair W0 w s x L M X) (m : Nat) (hm : m ≤ L.length) (hlen : L.length < 1000000) :
    Calls Try.prog 20 #[.pointer (some ⟨s, 0, none⟩), .int .i64 (m : Int)] w fun e w' => e = .returned (.bool true) ∧ Pair W0 w' s x (L.take m) M X ∧ Keep X w w' := Calls.pair_s h fun F hF => by
  obtain ⟨g, gs, hC, rfl, rfl⟩ := hF
  exact back_ok hC m (by simpa [absL] using hm) (by simpa [absL] using hlen)
theorem r_back (h : Pair W0 w s x L M X) (m : Nat) (hm : m ≤ M.length) (hlen : M.length < 1000000) :
    Calls Try.prog 44 #[.pointer (some ⟨x, 0, none⟩), .int .i64 (m : Int)] w fun e w' => e = .returned (.bool true) ∧ Pair W0 w' s x L (M.take m) X ∧ Keep X w w' := Calls.pair_r h fun F hF => by
  obtain ⟨rb, cap, rs, hC, rfl, rfl⟩ := hF
  exact rback_ok hC m (by simpa [rabs] using hm) (by simpa [rabs] using hlen)
theorem s_back_no (h : Pair W0 w s x L M X) (m : Int) (hm : m < 0 ∨ (L.length : Int) < m) :
    Calls Try.prog 20 #[.pointer (some ⟨s, 0, none⟩), .int .i64 m] w fun e w' => e = .returned (.bool false) ∧ Pair W0 w' s x L M X ∧ Keep X w w' := Calls.pair_s h fun F hF => by
  have hF0 := hF
  obtain ⟨g, gs, hC, rfl, rfl⟩ := hF
  exact (back_bad hC m hm).mono fun e w' hx => ⟨hx.1, .below hF0 (hx.2 ▸ Below.refl _ _)⟩
theorem r_back_no (h : Pair W0 w s x L M X) (m : Int) (hm : m < 0 ∨ (M.length : Int) < m) :
    Calls Try.prog 44 #[.pointer (some ⟨x, 0, none⟩), .int .i64 m] w fun e w' => e = .returned (.bool false) ∧ Pair W0 w' s x L M X ∧ Keep X w w' := Calls.pair_r h fun F hF => by
  have hF0 := hF
  obtain ⟨rb, cap, rs, hC, rfl, rfl⟩ := hF
  exact (rback_no hC m (by simpa [rabs] using hm)).mono fun e w' hx => ⟨hx.1, .below hF0 (hx.2 ▸ Below.refl _ _)⟩
theorem s_total (h : Pair W0 w s x L M X) :
    Calls Try.prog 23 #[.pointer (some ⟨s, 0, none⟩)] w fun e w' => e = .returned (.int .i64 (tot L)) ∧ Pair W0 w' s x L M X ∧ Keep X w w' := Calls.pair_s h fun F hF => by
  have hF0 := hF
  obtain ⟨g, gs, hC, rfl, rfl⟩ := hF
  exact (total_c hC).mono fun e w' hx => ⟨hx.1, .below hF0 (hx.2 ▸ Below.refl _ _)⟩
theorem r_total (h : Pair W0 w s x L M X) (hlen : M.length < 1000000) :
    Calls Try.prog 27 #[.pointer (some ⟨x, 0, none⟩)] w fun e w' => e = .returned (.int .i64 (tot M)) ∧ Pair W0 w' s x L M X ∧ Keep X w w' := Calls.pair_r h fun F hF => by
  have hF0 := hF
  obtain ⟨rb, cap, rs, hC, rfl, rfl⟩ := hF
  exact (rtotal_c hC (by simpa [rabs] using hlen)).mono fun e w' hx => ⟨hx.1, .below hF0 (hx.2 ▸ Below.refl _ _)⟩
theorem s_mark (h : Pair W0 w s x L M X) :
    Calls Try.prog 18 #[.pointer (some ⟨s, 0, none⟩)] w fun e w' => e = .returned (.int .i64 (L.length : Nat)) ∧ Pair W0 w' s x L M X ∧ Keep X w w' := Calls.pair_s h fun F hF => by
  have hF0 := hF
  obtain ⟨g, gs, hC, rfl, rfl⟩ := hF
  exact (mark_c hC).mono fun e w' hx => ⟨hx.1, .below hF0 (hx.2 ▸ Below.refl _ _)⟩
theorem r_mark (h : Pair W0 w s x L M X) :
    Calls Try.prog 28 #[.pointer (some ⟨x, 0, none⟩)] w fun e w' => e = .returned (.int .i64 (M.length : Nat)) ∧ Pair W0 w' s x L M X ∧ Keep X w w' := Calls.pair_r h fun F hF => by
  have hF0 := hF
  obtain ⟨rb, cap, rs, hC, rfl, rfl⟩ := hF
  exact ((rabs_length rs).symm ▸ rmark_c hC).mono fun e w' hx => ⟨hx.1, .below hF0 (hx.2 ▸ Below.refl _ _)⟩
end
end Go.Proofs.Ytgjaennilkhejaa

/- A set of package warm at a world, told by its changes alone; what a deed leaves. No condition. -/
import Derived.Test.YtgjaennilkhejaaWSet
import Derived.BigQuiet
import Derived.Deep.DeepCutAuto
import Derived.Deep.DrawnRows
import Derived.Deep.QuietTactic
import Derived.Deep.RegionHeld3
import Derived.Laws.MakeOwn
import Derived.RegionTactic
namespace Go.Proofs.Ytgjaennilkhejaa
open Go.RowKit
structure Eff (F : Nat → Prop) (w : World) (F' : Nat → Prop) (w' : World) : Prop where
  os : w'.os = w.os
  tape : w'.tape = w.tape
  output : w'.output = w.output
  size : w.heap.size ≤ w'.heap.size
  keep : ∀ k, k < w.heap.size → ¬ F k → w'.heap[k]? = w.heap[k]?
  sub : ∀ k, F' k → F k ∨ (w.heap.size ≤ k ∧ k < w'.heap.size)
theorem Eff.refl (F : Nat → Prop) (w : World) : Eff F w F w := ⟨rfl, rfl, rfl, Nat.le_refl _, fun _ _ _ => rfl, fun _ h => .inl h⟩
theorem Eff.trans {F F1 F2 : Nat → Prop} {a b c : World} (h : Eff F a F1 b) (k : Eff F1 b F2 c) : Eff F a F2 c :=
  ⟨k.os.trans h.os, k.tape.trans h.tape, k.output.trans h.output, Nat.le_trans h.size k.size,
    fun i hi hn => (k.keep i (Nat.lt_of_lt_of_le hi h.size) (fun h1 => by rcases h.sub i h1 with h2 | h2; exact hn h2; omega)).trans (h.keep i hi hn),
    fun i hi => by
      rcases k.sub i hi with h1 | h1
      · rcases h.sub i h1 with h2 | h2
        · exact .inl h2
        · exact .inr ⟨h2.1, Nat.lt_of_lt_of_le h2.2 k.size⟩
      · exact .inr ⟨Nat.le_trans h.size h1.1, h1.2⟩⟩
theorem Eff.below {F : Nat → Prop} {a b : World} (h : Below a.heap.size a b) : Eff F a F b := ⟨h.os, h.tape, h.output, h.size, fun k hk _ => h.block k hk, fun _ hk => .inl hk⟩
theorem Eff.low {F F' : Nat → Prop} {W0 w w' : World} (h : Eff F w F' w') (hl : ∀ k, F k → W0.heap.size ≤ k) (hb : Below W0.heap.size W0 w) : (∀ k, F' k → W0.heap.size ≤ k) ∧ Below W0.heap.size W0 w' := by
  have hs := hb.size
  refine ⟨fun k hk => ?_, hb.trans ⟨h.os, h.tape, h.output, h.size, fun k hk => h.keep k (by omega) fun hf => ?_⟩⟩
  · rcases h.sub k hk with r | r
    · exact hl k r
    · omega
  · have := hl k hf; omega
def At (w : World) (s : Nat) (L : List Ch) (F : Nat → Prop) : Prop := ∃ g gs, SetC w s g gs gs ∧ absL gs = L ∧ F = foot s g gs gs
theorem At.lt {w : World} {s : Nat} {L : List Ch} {F : Nat → Prop} (h : At w s L F) {k : Nat} (hk : F k) : k < w.heap.size := by
  obtain ⟨g, gs, h1, h2, rfl⟩ := h
  exact h1.lt hk
theorem At.kept {w w' : World} {s : Nat} {L : List Ch} {F : Nat → Prop} (h : At w s L F) (hk : ∀ k, F k → w'.heap[k]? = w.heap[k]?) : At w' s L F := by
  obtain ⟨g, gs, h1, h2, rfl⟩ := h
  exact ⟨g, gs, h1.kept hk, h2, rfl⟩
theorem At.below {w w' : World} {s : Nat} {L : List Ch} {F : Nat → Prop} (h : At w s L F) (hb : Below w.heap.size w w') : At w' s L F := h.kept fun _ hk => hb.block _ (h.lt hk)
def Turns (w : World) (s : Nat) (F : Nat → Prop) (L : List Ch) (w' : World) : Prop := ∃ F', At w' s L F' ∧ Eff F w F' w'
def One (W0 w : World) (s : Nat) (L : List Ch) : Prop := ∃ F, At w s L F ∧ (∀ k, F k → W0.heap.size ≤ k) ∧ Below W0.heap.size W0 w
theorem One.turn {W0 w w' : World} {s : Nat} {L : List Ch} {F : Nat → Prop} (hl : ∀ k, F k → W0.heap.size ≤ k) (hb : Below W0.heap.size W0 w) (h : Turns w s F L w') : One W0 w' s L := by
  obtain ⟨F', h1, h2⟩ := h
  obtain ⟨h3, h4⟩ := h2.low hl hb
  exact ⟨F', h1, h3, h4⟩
theorem One.below {W0 w w' : World} {s : Nat} {L : List Ch} (h : One W0 w s L) (hb : Below w.heap.size w w') : One W0 w' s L := by
  obtain ⟨F, h1, h2, h3⟩ := h
  exact ⟨F, h1.below hb, h2, h3.trans (hb.mono h3.size)⟩
theorem One.world {W0 w : World} {s : Nat} {L : List Ch} (h : One W0 w s L) : Below W0.heap.size W0 w := by
  obtain ⟨F, _, _, h3⟩ := h; exact h3
theorem Calls.one {W0 w : World} {s : Nat} {L L' : List Ch} {f : FuncId} {args : Array Value} {E : Ending → Prop} (h : One W0 w s L) (hc : ∀ F, At w s L F → Calls Try.prog f args w fun e w' => E e ∧ Turns w s F L' w') :
    Calls Try.prog f args w fun e w' => E e ∧ One W0 w' s L' := by
  obtain ⟨F, h1, h2, h3⟩ := h
  refine (hc F h1).mono ?_
  rintro e w' ⟨he, ht⟩
  exact ⟨he, One.turn h2 h3 ht⟩
theorem boxes2 (w : World) (x y : Obj) (W : World) (hW : W = (w.alloc x).alloc y) : W.heap[w.heap.size]? = some x ∧ W.heap[w.heap.size + 1]? = some y ∧ Below w.heap.size w W := by
  have s1 : (w.alloc x).heap.size = w.heap.size + 1 := World.size_alloc _ _
  have e2 := heap_alloc_new (w.alloc x) y
  rw [s1] at e2
  subst hW
  refine ⟨?_, e2, ?_⟩
  · rw [heap_alloc_old _ _ (by omega), heap_alloc_new]
  · exact ((Below.refl _ _).alloc (Nat.le_refl _) _).alloc (by omega) _
theorem src_row {P : Program} (w : World) (t e : TypeId) (ht : P.underlying t = some (.slice e)) (vs : List Value) (h1 : ∀ v ∈ vs, v.oneCell' = true) (sz : Nat) (hsz : vs.length = sz) (row : Array Value) (hrow : row = vs.toArray) (c : Nat) :
    Src P sz t (.slice (some ⟨w.heap.size, 0, none⟩) 1 c) 1 vs (w.alloc (.cells row e (0, 0))) := by
  subst hrow
  refine Src.ofSlice _ ht ⟨w.heap.size, 0, none⟩ 1 c _ (by omega) (fun j u hj => ?_) h1
  rw [add_head, cell_of_row _ w.heap.size j _ _ _ (heap_alloc_new w _)]
  simpa using hj
theorem info_func : (Try.prog.info? 1).map (fun i => (i.zero, i.size, i.bytes)) = some (some .nilFunc, 1, 8) := by kernel_rfl
theorem G.fn_one (s : Nat) (c : G) : (c.fn s).oneCell' = true := by cases c <;> rfl
/-- What can be taken back is one more: the append, and the store behind it. -/
theorem undo_world {w : World} {s : Nat} {g : Gs} {now und : List G} (h : SetC w s g now und) (c : G) (hok : c ∈ now ∨ c.ok w s g.maps) (hlen : und.length < 1000000) (ty : TypeId) :
    ∃ b' cap' W, (Builtin.append_ #[62, 62] ty #[.slice (g.ub.map fun b => ⟨b, 0, none⟩) und.length g.ucap, .slice (some ⟨w.heap.size, 0, none⟩) 1 1]).run Try.prog (w.alloc (.cells #[c.fn s] 1 (0, 0))) =
        .ok (.slice (some ⟨b', 0, none⟩) (und.length + 1) cap') W ∧ (∀ k, k < w.heap.size → g.ub ≠ some k → W.heap[k]? = w.heap[k]?) ∧ w.heap.size < W.heap.size ∧
      SetC (W.setCell ⟨s, 6, none⟩ (.slice (some ⟨b', 0, none⟩) (und.length + 1) cap')) s { g with ub := some b', ucap := cap' } now (und ++ [c]) ∧ (g.ub = some b' ∨ w.heap.size ≤ b') ∧ b' < W.heap.size ∧ W.os = w.os ∧ W.tape = w.tape ∧ W.output = w.output := by
  obtain ⟨i, hi, hz, hsz, hby⟩ := info_parts info_func
  obtain ⟨w1, hw1⟩ : ∃ w1, w1 = w.alloc (.cells #[c.fn s] 1 (0, 0)) := ⟨_, rfl⟩
  have hbel : Below w.heap.size w w1 := by rw [hw1]; exact (Below.refl _ _).alloc (Nat.le_refl _) _
  have hsz1 : w1.heap.size = w.heap.size + 1 := by rw [hw1]; exact World.size_alloc _ _
  have h1 := h.below hbel
  have hun : VRow 1 i.size w1 g.ub g.ucap und.length (und.map (G.fn s)) := by rw [hsz]; exact h1.undo
  have hsrc : Src Try.prog i.size 62 (.slice (some ⟨w.heap.size, 0, none⟩) 1 1) 1 [c.fn s] w1 := by
    rw [hw1, hsz]
    exact src_row w _ _ Try.underlying62 [c.fn s] (fun v hv => by rw [List.mem_singleton.1 hv]; exact G.fn_one s c) 1 rfl _ rfl 1
  obtain ⟨b', cap', W, r1, r2, r3, r4⟩ := run_append_v w1 62 ty 1 i .nilFunc Try.underlying62 hi hz (by rw [hsz]; rfl) (by omega) g.ub g.ucap und.length _ hun _ _ hsrc (by omega)
  rw [← hw1]
  have hkk : ∀ k, k < w.heap.size → g.ub ≠ some k → W.heap[k]? = w.heap[k]? := fun k hk hne => (r4.block k (by omega) (Ne.symm hne)).trans (hbel.block k hk)
  have hb3 : g.ub = some b' ∨ w.heap.size ≤ b' := by
    rcases r3 with r | r
    · exact .inl r
    · exact .inr (by omega)
  have hb' : VRow 1 1 W (some b') cap' (und ++ [c]).length ((und ++ [c]).map (G.fn s)) := by
    rw [List.length_append, List.map_append]
    rw [hsz] at r2
    exact r2
  refine ⟨b', cap', W, r1, hkk, by have := r4.size; omega, ?_, hb3, hb'.lt, r4.os.trans hbel.os, r4.tape.trans hbel.tape, r4.output.trans hbel.output⟩
  have := h1.setUndo (und' := und ++ [c]) (ub := some b') (ucap := cap') r4 hb' (by rcases r3 with r | r; exact .inl r; exact .inr fun b e => by cases e; exact r) (fun x hx => by
    rcases List.mem_append.1 hx with r | r
    · exact .inl r
    · rw [List.mem_singleton.1 r]
      rcases hok with q | q
      · exact .inr (.inl q)
      · exact .inr (.inr (q.kept fun k hk => by obtain ⟨_, _, hb, _⟩ := q.tag hk; exact hbel.block k (lt_of_block hb))))
  rw [List.length_append] at this
  exact this
/-- The world behind a note of a new key. -/
theorem note_world {w : World} {s : Nat} {g : Gs} {gs : List G} (h : SetC w s g gs gs) {f : Fin 4} {v : Value} (hv : okK f v) (hn : v ∉ keysOf f (absL gs)) (hlen : gs.length < 1000000) (ty : TypeId) (W2 : World)
    (hW2 : W2 = (w.alloc (.cells #[.map (some (g.maps f))] (tM f) (0, 0))).alloc (.cells v.cells (tK f) (0, 0))) :
    ∃ W4 b' cap' W5, (Instr.mapUpdate (tM f) (.map (some (g.maps f))) v (.agg #[])).run Try.prog (W2.alloc (.cells #[] 69 (0, 0))) = .ok () W4 ∧
      W4.heap[s]? = some (.cells #[.map (some (g.maps 0)), .map (some (g.maps 1)), .map (some (g.maps 2)), .map (some (g.maps 3)), .int .i64 (tot (absL gs)), .slice (g.lb.map fun b => ⟨b, 0, none⟩) (logsOf (absL gs)).length g.lcap, .slice (g.ub.map fun b => ⟨b, 0, none⟩) gs.length g.ucap] 64 (0, 0)) ∧
      (Builtin.append_ #[62, 62] ty #[.slice (g.ub.map fun b => ⟨b, 0, none⟩) gs.length g.ucap, .slice (some ⟨W4.heap.size, 0, none⟩) 1 1]).run Try.prog
        (W4.alloc (.cells #[.func (.func (fK f)) #[] #[.pointer (some ⟨w.heap.size, 0, none⟩), .pointer (some ⟨w.heap.size + 1, 0, none⟩)]] 1 (0, 0))) = .ok (.slice (some ⟨b', 0, none⟩) (gs.length + 1) cap') W5 ∧
      W5.heap[s]? = W4.heap[s]? ∧ Turns w s (foot s g gs gs) (absL gs ++ [.key f v]) (W5.setCell ⟨s, 6, none⟩ (.slice (some ⟨b', 0, none⟩) (gs.length + 1) cap')) := by
  obtain ⟨o1, o2, hb⟩ := boxes2 w _ _ _ hW2
  obtain ⟨W3, hW3⟩ : ∃ W3, W3 = W2.alloc (.cells #[] 69 (0, 0)) := ⟨_, rfl⟩
  have hb3 : Below W2.heap.size W2 W3 := by rw [hW3]; exact (Below.refl _ _).alloc (Nat.le_refl _) _
  have hbw : Below w.heap.size w W3 := hb.trans (hb3.mono hb.size)
  have hs2 : W2.heap.size = w.heap.size + 2 := by rw [hW2, World.size_alloc, World.size_alloc]
  have hs3 : W3.heap.size = w.heap.size + 3 := by rw [hW3, World.size_alloc, hs2]
  have h3 := h.below hbw
  obtain ⟨c, hc⟩ : ∃ c : G, c = .key f v w.heap.size (w.heap.size + 1) := ⟨_, rfl⟩
  have hcok : G.ok W3 s g.maps (.key f v w.heap.size (w.heap.size + 1)) := ⟨hv, (hb3.block _ (by omega)).trans o1, (hb3.block _ (by omega)).trans o2⟩
  obtain ⟨W4, r1, r2, r3⟩ := h3.put hcok hn
  rw [← hW3]
  rw [← hc] at r2
  have e : absL (gs ++ [c]) = absL gs ++ [.key f v] := by rw [hc]; exact absL_append _ _
  obtain ⟨b', cap', W5, q1, q2, q3, q4, q5, q6, q7, q8, q9⟩ := undo_world r2 c (.inl (by simp)) hlen ty
  rw [show c.fn s = .func (.func (fK f)) #[] #[.pointer (some ⟨w.heap.size, 0, none⟩), .pointer (some ⟨w.heap.size + 1, 0, none⟩)] by rw [hc]; rfl] at q1
  have hset := r2.set
  rw [e, tot_snoc, logsOf_snoc] at hset
  simp only [logIn, List.append_nil, addN] at hset
  have hs4 : W4.heap.size = w.heap.size + 3 := r3.size.trans hs3
  have hss : s < w.heap.size := lt_of_block h.set
  refine ⟨W4, b', cap', W5, r1, hset, q1, q2 s (by omega) (fun e2 => (r2.ub_ne e2).1 rfl), foot s { g with ub := some b', ucap := cap' } (gs ++ [c]) (gs ++ [c]), ⟨_, _, q4, e, rfl⟩, ?_⟩
  refine ⟨q7.trans (r3.os.trans hbw.os), q8.trans (r3.tape.trans hbw.tape), q9.trans (r3.output.trans hbw.output), by simp; omega, fun k hk hnf => ?_, ?_⟩
  · have hne : k ≠ s := fun e2 => hnf (.inl e2)
    rw [setCell_other _ hne, q2 k (by omega) (fun e2 => hnf (.inr (.inr (.inr (.inl e2))))), r3.block k (fun e2 => hnf (.inr (.inl ⟨f, e2⟩)))]
    exact hbw.block k hk
  · have hcf : ∀ k, c.foot k → w.heap.size ≤ k ∧ k < W5.heap.size := fun k hk => by
      rw [hc] at hk
      rcases hk with rfl | rfl <;> omega
    have hsz : (W5.setCell ⟨s, 6, none⟩ (.slice (some ⟨b', 0, none⟩) (gs.length + 1) cap')).heap.size = W5.heap.size := by simp
    rw [hsz]
    have hgs : ∀ k, (∃ x ∈ gs ++ [c], x.foot k) → foot s g gs gs k ∨ w.heap.size ≤ k ∧ k < W5.heap.size := by
      rintro k ⟨x, hx, hk⟩
      rcases List.mem_append.1 hx with r | r
      · exact .inl (.inr (.inr (.inr (.inr (.inl ⟨x, r, hk⟩)))))
      · rw [List.mem_singleton.1 r] at hk; exact .inr (hcf k hk)
    rintro k (rfl | hk | hk | hk | hk | hk)
    · exact .inl (.inl rfl)
    · exact .inl (.inr (.inl hk))
    · exact .inl (.inr (.inr (.inl hk)))
    · cases hk
      rcases q5 with q | q
      · exact .inl (.inr (.inr (.inr (.inl q))))
      · exact .inr ⟨by omega, q6⟩
    · exact hgs k hk
    · exact hgs k hk
end Go.Proofs.Ytgjaennilkhejaa

/- The reference of chapter 6: its disk in memory; find, Used, crashes, Read, Arm, put, drop. The bound: at most 10^6 files. -/
import Derived.Test.YtmjeanbbhacnaaaRefFrames
import Derived.Test.YtmjeanbbhacnaaaRecWhole
import Derived.Deep.RegionLaw
import Derived.Deep.RegionHeld3
import Derived.WalkLawsBesides
namespace Go.Proofs.Ytmjeanbbhacnaaa
open Go.RowKit
/-- A slice that can be read: n elements of sz cells each. -/
structure VArg (sz : Nat) (w : World) (a : Option Addr) (cap n : Nat) (cs : List Value) : Prop where
  len : cs.length = n * sz
  le : n ≤ cap
  nil : a = none → cap = 0
  one : ∀ u ∈ cs, u.oneCell' = true
  cell : ∀ i (h : i < cs.length), ∃ b, a = some b ∧ b.block < w.heap.size ∧ w.cell? (b.add i) = some (cs[i])
theorem add_block (b : Addr) (i : Nat) : (b.add i).block = b.block := by unfold Addr.add; split <;> rfl
section
variable {sz : Nat} {w w' : World} {a : Option Addr} {cap n : Nat} {cs : List Value}
theorem VArg.kept (h : VArg sz w a cap n cs) (hs : w.heap.size ≤ w'.heap.size) (hk : ∀ b, a = some b → b.block < w.heap.size → w'.heap[b.block]? = w.heap[b.block]?) : VArg sz w' a cap n cs :=
  ⟨h.len, h.le, h.nil, h.one, fun i hi => by
    obtain ⟨b, h1, h2, h3⟩ := h.cell i hi
    exact ⟨b, h1, by omega, (World.cell?_of_block (a := b.add i) (by rw [add_block]; exact hk b h1 h2)).trans h3⟩⟩
theorem VArg.below (h : VArg sz w a cap n cs) (hb : Below w.heap.size w w') : VArg sz w' a cap n cs := h.kept hb.size fun _ _ hlt => hb.block _ hlt
theorem VRow.arg {e : TypeId} {gb : Option Nat} (h : VRow e sz w gb cap n cs) (h1 : ∀ u ∈ cs, u.oneCell' = true) : VArg sz w (gb.map fun b => ⟨b, 0, none⟩) cap n cs := by
  refine ⟨h.1, h.2.1, fun e => ?_, h1, fun i hi => ?_⟩
  · cases gb with
    | none => exact h.nil.2.2
    | some b => cases e
  · obtain ⟨b, hb, hc⟩ := h.cell i hi
    subst hb
    exact ⟨⟨b, 0, none⟩, rfl, h.lt, by rw [add_head]; exact hc⟩
end
/-- All of a slice, appended to nil. -/
theorem run_append_none {P : Program} (w : World) (t ty e : TypeId) (i : TypeInfo) (z : Value) (ht : P.underlying t = some (.slice e)) (hi : P.info? e = some i) (hz : i.zero = some z) (hzs : z.cells.size = i.size) (hs0 : 0 < i.size)
    (a : Option Addr) (cap n : Nat) (cs : List Value) (h : VArg i.size w a cap n cs) (hn : (n : Int) ≤ 9223372036854775807) (hby : n * i.bytes ≤ 281474976710656) :
    ∃ (tb : Option Nat) (tc : Nat) (W : World), (Builtin.append_ #[t, t] ty #[.slice none 0 0, .slice a n cap]).run P w = .ok (.slice (tb.map fun b => ⟨b, 0, none⟩) n tc) W ∧ VRow e i.size W tb tc n cs ∧ (∀ b, tb = some b → w.heap.size ≤ b) ∧ Below w.heap.size w W := by
  by_cases h0 : n = 0
  · subst h0
    have hcs : cs = [] := List.length_eq_zero_iff.1 (by rw [h.len, Nat.zero_mul])
    subst hcs
    have hs : Src P i.size t (.slice a 0 cap) 0 [] w := by
      cases a with
      | none => exact Src.ofNil w ht cap
      | some ad => exact Src.ofSlice w ht ad 0 cap [] (by simp) (fun j u hj => by simp at hj) (fun u hu => by cases hu)
    refine ⟨none, 0, w, ?_, ⟨by simp, Nat.le_refl _, rfl⟩, (fun b e => by cases e), Below.refl _ _⟩
    simp [Builtin.append_, run_underlying ht, sizeOf, typeInfo, hi, hs.len, hs.cells]
  · have hpos : 0 < cs.length := by rw [h.len]; exact Nat.mul_pos (by omega) hs0
    obtain ⟨ad, rfl, _, _⟩ := h.cell 0 hpos
    have hsrc : Src P i.size t (.slice (some ad) n cap) n cs w := Src.ofSlice _ ht ad n cap _ h.len (fun j u hj => by
      have hjl : j < cs.length := (List.getElem?_eq_some_iff.1 hj).1
      obtain ⟨b2, h1, h2, h3⟩ := h.cell j hjl
      cases h1
      rw [h3, ← hj, List.getElem?_eq_getElem hjl]) h.one
    have hold : (Builtin.firstCells i.size 0 (.slice none 0 0)).run P w.drew = .ok (([] : List Value)).toArray w.drew := run_firstCells_none w.drew i.size 0 0 0
    have hnc : Builtin.nextslicecap (0 + n) 0 = n := by unfold Builtin.nextslicecap; rw [if_pos (by omega)]; omega
    have hrun := run_append_grow_src w t t ty e i z ht hi hz none 0 0 [] hold _ n cs hsrc (by omega) (by omega) (by rw [hnc]; exact hby)
    have hle : n ≤ grownCap w (0 + n) 0 e := by have : 0 + n ≤ grownCap w (0 + n) 0 e := Nat.le_add_right _ _; omega
    rw [Nat.zero_add] at hrun hle
    refine ⟨some w.heap.size, _, _, hrun, ⟨h.len, hle, _, heap_alloc_new w.drew _, ?_, ?_⟩, (fun b e => by cases e; exact Nat.le_refl _), ((Below.refl w.heap.size w).drew).alloc (by simp) _⟩
    · have hle2 : grownCap w n 0 e = n + (grownCap w n 0 e - n) := by omega
      rw [Array.size_append, size_zeroCells, hzs, List.size_toArray, List.length_append, h.len]
      rw [hle2, Nat.add_mul]
      simp
    · intro k hk
      rw [Array.getElem?_append_left (by simpa using hk)]
      simp
theorem run_append_q {P : Program} (w : World) (t ty e : TypeId) (i : TypeInfo) (z : Value) (ht : P.underlying t = some (.slice e)) (hi : P.info? e = some i) (hz : i.zero = some z) (hzs : z.cells.size = i.size) (hby : i.bytes ≤ 200)
    (b cap n : Nat) (cs : List Value) (hr : VRow e i.size w (some b) cap n cs) (x : Value) (q : Nat) (news : List Value) (hsrc : Src P i.size t x q news w) (hn : n + q < 1073741824) :
    ∃ b' cap' W, (Builtin.append_ #[t, t] ty #[.slice (some ⟨b, 0, none⟩) n cap, x]).run P w = .ok (.slice (some ⟨b', 0, none⟩) (n + q) cap') W ∧
      VRow e i.size W (some b') cap' (n + q) (cs ++ news) ∧ (b' = b ∨ w.heap.size ≤ b') ∧ w.grownBy W (some b) := by
  have hnl : news.length = q * i.size := hsrc.newsLen
  obtain ⟨h1, h2, row, h3, h4, h5⟩ := hr
  by_cases hroom : n + q ≤ cap
  · have hcap : (n + q) * i.size ≤ cap * i.size := Nat.mul_le_mul_right _ hroom
    rw [Nat.add_mul] at hcap
    have hrun := run_append_room_src w t t ty e i ht hi b 0 n cap x q news hsrc hroom (fun j hj => by
      rw [cell_of_row w b _ row _ _ h3, Array.getElem?_eq_getElem (by omega)]; rfl) (fun j hj => frozen_of_row w b _ _ _ h3)
    refine ⟨b, cap, _, hrun, ⟨?_, hroom, _, setCells_block b _ _ _ _ _ _ h3, ?_, ?_⟩, .inl rfl, setCells_grown _ _ _ _⟩
    · rw [List.length_append, h1, hnl, Nat.add_mul]
    · rw [setMany_size, h4]
    · intro k hk
      rw [List.length_append, h1, hnl] at hk
      rw [Nat.zero_add]
      by_cases e1 : k < n * i.size
      · rw [setMany_lt _ _ _ _ e1, List.getElem?_append_left (by omega)]
        exact h5 k (by omega)
      · rw [List.getElem?_append_right (by omega), h1]
        have := setMany_in news row (n * i.size) (k - n * i.size) (by omega) (by omega)
        rw [show n * i.size + (k - n * i.size) = k by omega] at this
        exact this
  · have hold : (Builtin.firstCells i.size n (.slice (some ⟨b, 0, none⟩) n cap)).run P w.drew = .ok cs.toArray w.drew := by
      refine run_firstCells_some w.drew i.size n ⟨b, 0, none⟩ n cap cs h1 (fun j u hj => ?_)
      have hj' : j < cs.length := by
        rcases Nat.lt_or_ge j cs.length with h' | h'
        · exact h'
        · rw [List.getElem?_eq_none h'] at hj; cases hj
      rw [add_head, cell_of_row w.drew b j row _ _ h3, h5 j hj']
      exact hj
    have hrun := run_append_grow_src w t t ty e i z ht hi hz (some ⟨b, 0, none⟩) n cap cs hold x q news hsrc (by omega) (by omega)
      (by
        have h1 : Builtin.nextslicecap (n + q) cap ≤ 2 * (n + q) + 1000 := Nat.le_trans (nextslicecap_le (by omega)) (by omega)
        obtain ⟨r, hr⟩ : ∃ r, r = Builtin.nextslicecap (n + q) cap := ⟨_, rfl⟩
        rw [← hr] at h1 ⊢
        have h2 : r * i.bytes ≤ r * 200 := Nat.mul_le_mul_left r hby
        omega)
    have hle : n + q ≤ grownCap w (n + q) cap e := Nat.le_add_right _ _
    refine ⟨_, _, _, hrun, ⟨?_, hle, _, heap_alloc_new _ _, ?_, ?_⟩, .inr ?_, ⟨rfl, rfl, rfl, ?_, fun k hk _ => heap_alloc_old _ _ hk⟩⟩
    · rw [List.length_append, h1, hnl, Nat.add_mul]
    · have hle2 : grownCap w (n + q) cap e = n + q + (grownCap w (n + q) cap e - (n + q)) := by omega
      rw [Array.size_append, size_zeroCells, hzs, List.size_toArray, List.length_append, h1, hnl]
      rw [hle2, Nat.add_mul, Nat.add_mul]
      simp
    · intro k hk
      rw [Array.getElem?_append_left (by simpa using hk)]
      simp
    · simp
    · simp [World.size_alloc]
/-- The first elements of a row, as a slice that can be read. -/
theorem VArg.first {sz : Nat} {w : World} {a : Option Addr} {cap n : Nat} {cs : List Value} (h : VArg sz w a cap n cs) (k : Nat) (hk : k ≤ n) : VArg sz w a cap k (cs.take (k * sz)) := by
  have hks : k * sz ≤ n * sz := Nat.mul_le_mul_right _ hk
  refine ⟨by rw [List.length_take, h.len]; omega, Nat.le_trans hk h.le, h.nil, fun u hu => h.one u (List.mem_of_mem_take hu), fun i hi => ?_⟩
  rw [List.length_take, h.len] at hi
  obtain ⟨b, h1, h2, h3⟩ := h.cell i (by rw [h.len]; omega)
  exact ⟨b, h1, h2, by rw [h3, List.getElem_take]⟩
/-- .. the ones behind a place. -/
theorem VArg.behind {sz : Nat} {w : World} {b cap n : Nat} {cs : List Value} (h : VArg sz w (some ⟨b, 0, none⟩) cap n cs) (k : Nat) (hk : k ≤ n) :
    VArg sz w (if cap = k then some ⟨b, 0, none⟩ else some ⟨b, k * sz, none⟩) (cap - k) (n - k) (cs.drop (k * sz)) := by
  have hle := h.le
  refine ⟨by rw [List.length_drop, h.len, Nat.sub_mul], by omega, (fun e => by split at e <;> cases e), fun u hu => h.one u (List.mem_of_mem_drop hu), fun i hi => ?_⟩
  rw [List.length_drop, h.len] at hi
  obtain ⟨b2, h1, h2, h3⟩ := h.cell (k * sz + i) (by rw [h.len]; omega)
  cases h1
  have hne : cap ≠ k := fun e => by
    have : n - k = 0 := by omega
    have : n * sz - k * sz = 0 := by rw [← Nat.sub_mul, this, Nat.zero_mul]
    omega
  refine ⟨_, if_neg hne, h2, ?_⟩
  rw [List.getElem_drop, ← h3]
  have e1 : (⟨b, 0, none⟩ : Addr).add (k * sz + i) = ⟨b, k * sz + i, none⟩ := add_head _ _
  have e2 : (⟨b, k * sz, none⟩ : Addr).add i = ⟨b, k * sz + i, none⟩ := by unfold Addr.add; split <;> simp_all
  rw [e1, e2]
/-- A slice that can be read, as what is appended. -/
theorem VArg.src {P : Program} {sz : Nat} {w : World} {a : Option Addr} {cap n : Nat} {cs : List Value} {t e : TypeId} (h : VArg sz w a cap n cs) (ht : P.underlying t = some (.slice e)) : Src P sz t (.slice a n cap) n cs w := by
  cases a with
  | none =>
    have h1 := h.nil rfl
    have h2 := h.le
    have hn : n = 0 := by omega
    subst hn
    have hcs : cs = [] := List.length_eq_zero_iff.1 (by rw [h.len, Nat.zero_mul])
    subst hcs
    exact Src.ofNil w ht cap
  | some ad =>
    refine Src.ofSlice _ ht ad n cap _ h.len (fun j u hj => ?_) h.one
    have hjl : j < cs.length := (List.getElem?_eq_some_iff.1 hj).1
    obtain ⟨b2, h1, h2, h3⟩ := h.cell j hjl
    cases h1
    rw [h3, ← hj, List.getElem?_eq_getElem hjl]
/-- A slice appended to a row, or to nil. -/
theorem run_append_o {P : Program} (w : World) (t ty e : TypeId) (i : TypeInfo) (z : Value) (ht : P.underlying t = some (.slice e)) (hi : P.info? e = some i) (hz : i.zero = some z) (hzs : z.cells.size = i.size) (hs0 : 0 < i.size) (hby : i.bytes ≤ 200)
    (gb : Option Nat) (cap n : Nat) (cs : List Value) (hr : VRow e i.size w gb cap n cs) (a : Option Addr) (cp q : Nat) (news : List Value) (hv : VArg i.size w a cp q news) (hn : n + q < 1073741824) :
    ∃ gb' cap' W, (Builtin.append_ #[t, t] ty #[.slice (gb.map fun b => ⟨b, 0, none⟩) n cap, .slice a q cp]).run P w = .ok (.slice (gb'.map fun b => ⟨b, 0, none⟩) (n + q) cap') W ∧
      VRow e i.size W gb' cap' (n + q) (cs ++ news) ∧ (∀ b, gb' = some b → gb = some b ∨ w.heap.size ≤ b) ∧ w.grownBy W gb := by
  cases gb with
  | none =>
    obtain ⟨rfl, rfl, rfl⟩ := hr.nil
    obtain ⟨tb, tc, W, r1, r2, r3, r4⟩ := run_append_none w t ty e i z ht hi hz hzs hs0 a cp q news hv (by omega) (by
      have h2 : q * i.bytes ≤ q * 200 := Nat.mul_le_mul_left q hby
      omega)
    refine ⟨tb, tc, W, by rw [Nat.zero_add]; exact r1, by rw [Nat.zero_add]; exact r2, fun b e => .inr (r3 b e), ⟨r4.os, r4.tape, r4.output, r4.size, fun k hk _ => r4.block k hk⟩⟩
  | some b =>
    obtain ⟨b', cap', W, r1, r2, r3, r4⟩ := run_append_q w t ty e i z ht hi hz hzs hby b cap n cs hr (.slice a q cp) q news (hv.src ht) hn
    refine ⟨some b', cap', W, r1, r2, fun c e => ?_, r4⟩
    cases e
    rcases r3 with e | e
    · exact .inl (by rw [e])
    · exact .inr e
end Go.Proofs.Ytmjeanbbhacnaaa
namespace Go.Proofs.Ytmjeanbbhacnaaa
open Go.RowKit
theorem bLess_eq : ∀ (x y : List UInt8), Op.bytesLess x y = decide (x < y)
  | [], [] => by simp [Op.bytesLess]
  | _ :: _, [] => by simp [Op.bytesLess]
  | [], _ :: _ => by simp [Op.bytesLess]
  | a :: x, b :: y => by
    rw [Op.bytesLess, bLess_eq x y]
    simp only [List.cons_lt_cons_iff]
    by_cases h1 : a < b <;> by_cases h2 : a = b <;> by_cases h3 : x < y <;> simp [h1, h2, h3]
def bl (y a : ByteArray) : Bool := Op.bytesLess y.toList a.toList
theorem bl_lt (y a : ByteArray) : bl y a = decide (y.data.toList < a.data.toList) := by unfold bl; rw [bLess_eq, Lib.toList_data, Lib.toList_data]
theorem ba_inj {x y : ByteArray} (h : x.data.toList = y.data.toList) : x = y := by
  obtain ⟨⟨l⟩⟩ := x
  obtain ⟨⟨m⟩⟩ := y
  have : l = m := h
  rw [this]
/-- In their order, each once. -/
def Srt (L : List Fi) : Prop := L.Pairwise fun x y => x.name.data.toList < y.name.data.toList
theorem Srt.named {L : List Fi} (h : Srt L) : Named L := h.imp fun hab e => by rw [e] at hab; exact List.lt_irrefl _ hab
theorem srt_unique {a b : List Fi} (ha : Srt a) (hb : Srt b) (h : a.Perm b) : a = b :=
  List.Perm.eq_of_pairwise (le := fun x y : Fi => x.name.data.toList < y.name.data.toList) (fun _ _ _ _ h1 h2 => absurd (List.lt_trans h1 h2) (List.lt_irrefl _)) ha hb h
theorem Srt.lt {L : List Fi} (h : Srt L) {i j : Nat} (hi : i < j) (hj : j < L.length) : (L[i]'(by omega)).name.data.toList < L[j].name.data.toList := List.pairwise_iff_getElem.1 h i j (by omega) hj hi
/-- k is the place of the name n. -/
structure Place (L : List Fi) (n : ByteArray) (k : Nat) : Prop where
  le : k ≤ L.length
  below : ∀ i (h : i < L.length), i < k → bl L[i].name n = true
  here : ∀ h : k < L.length, bl L[k].name n = false
section
variable {L : List Fi} {n : ByteArray} {k : Nat}
theorem Place.unique {j : Nat} (h : Place L n k) (h2 : Place L n j) : j = k := by
  rcases Nat.lt_trichotomy j k with e | e | e
  · have h3 := h.below j (by have := h.le; omega) e
    rw [h2.here (by have := h.le; omega)] at h3; cases h3
  · exact e
  · have h3 := h2.below k (by have := h2.le; omega) e
    rw [h.here (by have := h2.le; omega)] at h3; cases h3
/-- There is such a place. -/
theorem place_ex (L : List Fi) (n : ByteArray) : ∃ k, Place L n k := by
  induction L with
  | nil => exact ⟨0, Nat.le_refl _, fun i h => absurd h (Nat.not_lt_zero _), fun h => absurd h (Nat.not_lt_zero _)⟩
  | cons x r ih =>
    by_cases hb : bl x.name n = true
    · obtain ⟨k, h1, h2, h3⟩ := ih
      refine ⟨k + 1, by simpa using h1, fun i h hlt => ?_, fun h => by simpa using h3 (by simpa using h)⟩
      cases i with
      | zero => exact hb
      | succ i => simpa using h2 i (by simpa using h) (by omega)
    · exact ⟨0, Nat.zero_le _, fun i _ hlt => absurd hlt (Nat.not_lt_zero _), fun _ => Bool.eq_false_iff.2 hb⟩
theorem Place.yes (hs : Srt L) (h : Place L n k) {f : Fi} (hg : fget L n = some f) : ∃ hk : k < L.length, L[k] = f ∧ f.name = n := by
  obtain ⟨hm, hn⟩ := fget_some hg
  obtain ⟨i, hi, rfl⟩ := List.getElem_of_mem hm
  have e : i = k := by
    rcases Nat.lt_trichotomy i k with e | e | e
    · have h3 := h.below i hi e
      rw [bl_lt, hn] at h3
      exact absurd (of_decide_eq_true h3) (List.lt_irrefl _)
    · exact e
    · have h3 := h.here (by omega)
      have h4 := hs.lt e hi
      rw [hn] at h4
      rw [bl_lt, decide_eq_true h4] at h3
      cases h3
  subst e
  exact ⟨hi, rfl, hn⟩
theorem fget_none' {l : List Fi} {m : ByteArray} (h : ∀ x ∈ l, x.name ≠ m) : fget l m = none := by
  unfold fget
  rw [List.find?_eq_none]
  intro x hx
  simpa using h x hx
theorem Place.found (hs : Srt L) (h : Place L n k) : (fget L n).isSome = true ↔ ∃ hk : k < L.length, L[k].name = n := by
  constructor
  · intro he
    obtain ⟨f, hf⟩ := Option.isSome_iff_exists.1 he
    obtain ⟨hk, h1, h2⟩ := h.yes hs hf
    exact ⟨hk, by rw [h1]; exact h2⟩
  · rintro ⟨hk, he⟩
    rw [← he, fget_mem hs.named (List.getElem_mem hk)]
    rfl
theorem take_drop_perm {α : Type} (l : List α) (k : Nat) (a : α) : (l.take k ++ a :: l.drop k).Perm (l ++ [a]) := by
  refine (List.perm_middle).trans ((List.Perm.of_eq ?_).trans (List.perm_append_singleton a l).symm)
  rw [List.take_append_drop]
/-- One more. -/
theorem Place.put_new (hs : Srt L) (h : Place L n k) (hg : fget L n = none) {f : Fi} (hf : f.name = n) : Srt (L.take k ++ f :: L.drop k) ∧ (fput L f).Perm (L.take k ++ f :: L.drop k) := by
  have hlow : ∀ x ∈ L.take k, x.name.data.toList < f.name.data.toList := fun x hx => by
    obtain ⟨i, hi, rfl⟩ := List.getElem_of_mem hx
    rw [List.length_take] at hi
    have h3 := h.below i (by omega) (by omega)
    rw [bl_lt] at h3
    rw [List.getElem_take, hf]
    exact of_decide_eq_true h3
  have hhigh : ∀ x ∈ L.drop k, f.name.data.toList < x.name.data.toList := fun x hx => by
    obtain ⟨i, hi, rfl⟩ := List.getElem_of_mem hx
    rw [List.length_drop] at hi
    have hk : k < L.length := by omega
    have h3 := h.here hk
    rw [bl_lt] at h3
    have h4 : n.data.toList ≤ L[k].name.data.toList := List.not_lt.1 fun e => by rw [decide_eq_true e] at h3; cases h3
    have h5 : n.data.toList ≤ L[k + i].name.data.toList := by
      rcases Nat.eq_zero_or_pos i with e | e
      · subst e; exact h4
      · exact List.le_trans h4 (List.le_of_lt (hs.lt (by omega) (by omega)))
    rw [List.getElem_drop, hf]
    refine List.not_le.1 fun e => ?_
    have e2 := List.le_antisymm h5 e
    exact fget_none hg _ (List.getElem_mem (by omega)) (ba_inj e2.symm)
  refine ⟨?_, ?_⟩
  · refine List.pairwise_append.2 ⟨hs.sublist (List.take_sublist _ _), List.pairwise_cons.2 ⟨hhigh, hs.sublist (List.drop_sublist _ _)⟩, fun x hx y hy => ?_⟩
    rcases List.mem_cons.1 hy with e | e
    · rw [e]; exact hlow x hx
    · exact List.lt_trans (hlow x hx) (hhigh y e)
  · have e : fput L f = L ++ [f] := by unfold fput; rw [hf, hg]; rfl
    rw [e]
    exact (take_drop_perm L k f).symm
/-- Another one in its place. -/
theorem Place.put_old (hs : Srt L) (h : Place L n k) {g f : Fi} (hg : fget L n = some g) (hf : f.name = n) : Srt (L.set k f) ∧ fput L f = L.set k f := by
  obtain ⟨hk, h1, h2⟩ := h.yes hs hg
  have e : fput L f = L.set k f := by
    unfold fput
    rw [hf, hg]
    simp only [Option.isSome_some, if_true]
    refine List.ext_getElem (by simp) fun i h3 h4 => ?_
    rw [List.getElem_map, List.getElem_set]
    by_cases e : k = i
    · subst e
      rw [if_pos rfl, if_pos (by rw [h1]; exact h2)]
    · rw [if_neg e, if_neg fun e2 => e ?_]
      have hi : i < L.length := by simpa using h3
      rcases Nat.lt_trichotomy i k with e3 | e3 | e3
      · have := hs.lt e3 hk; rw [e2, h1, h2] at this; exact absurd this (List.lt_irrefl _)
      · exact e3.symm
      · have := hs.lt e3 hi; rw [e2, h1, h2] at this; exact absurd this (List.lt_irrefl _)
  refine ⟨?_, e⟩
  unfold Srt
  rw [List.pairwise_iff_getElem]
  intro i j hi hj hij
  have key : ∀ a (ha : a < (L.set k f).length), ((L.set k f)[a]).name = (L[a]'(by simpa using ha)).name := fun a ha => by
    rw [List.getElem_set]
    split
    · rename_i e2; subst e2; rw [hf, ← h2, ← h1]
    · rfl
  rw [key i hi, key j hj]
  exact hs.lt hij (by simpa using hj)
/-- One is dropped. -/
theorem Place.drop (hs : Srt L) (h : Place L n k) {g : Fi} (hg : fget L n = some g) : Srt (L.take k ++ L.drop (k + 1)) ∧ (fdel L n).Perm (L.take k ++ L.drop (k + 1)) := by
  obtain ⟨hk, h1, h2⟩ := h.yes hs hg
  have e : L.take k ++ L.drop (k + 1) = L.eraseIdx k := (List.eraseIdx_eq_take_drop_succ _ _).symm
  refine ⟨by rw [e]; exact hs.sublist (List.eraseIdx_sublist _ _), ?_⟩
  have p1 := fdel_of hs.named (List.getElem_mem hk)
  rw [h1, h2] at p1
  have p2 : L.Perm (g :: (L.take k ++ L.drop (k + 1))) := by
    have : L = L.take k ++ L[k] :: L.drop (k + 1) := by rw [← List.drop_eq_getElem_cons hk, List.take_append_drop]
    rw [h1] at this
    exact (List.Perm.of_eq this).trans List.perm_middle
  exact (List.perm_cons g).1 (p1.symm.trans p2)
end
end Go.Proofs.Ytmjeanbbhacnaaa
namespace Go.Proofs.Ytmjeanbbhacnaaa
open Go.RowKit
attribute [local go_sem ↓] Go.wp_at_zero Go.wp_at_succ
theorem flat_get {α β : Type} (f : α → List β) (k : Nat) : ∀ (l : List α) (_ : ∀ x ∈ l, (f x).length = k) (i : Nat) (hi : i < l.length) (j : Nat) (_ : j < k), (l.flatMap f)[i * k + j]? = (f l[i])[j]?
  | [], _, i, hi, _, _ => absurd hi (Nat.not_lt_zero _)
  | x :: r, h, 0, _, j, hj => by
    have hx := h x List.mem_cons_self
    rw [List.flatMap_cons, Nat.zero_mul, Nat.zero_add, List.getElem?_append_left (by omega)]
    rfl
  | x :: r, h, i + 1, hi, j, hj => by
    have hx := h x List.mem_cons_self
    have := flat_get f k r (fun y hy => h y (List.mem_cons_of_mem _ hy)) i (by simpa using hi) j hj
    rw [List.flatMap_cons, List.getElem?_append_right (by rw [hx, Nat.succ_mul]; omega), hx, show (i + 1) * k + j - k = i * k + j by rw [Nat.succ_mul]; omega, this]
    rfl
def txt (l : List UInt8) : ByteArray := ⟨l.toArray⟩
theorem txt_size (l : List UInt8) : (txt l).size = l.length := by unfold txt; simp [ByteArray.size]
def fiCells (f : Fi) : List Value := [.string f.name, .string (txt f.bytes), .int .i64 (f.synced : Int)]
theorem fiCells_one (f : Fi) : ∀ u ∈ fiCells f, u.oneCell' = true := by
  intro u hu
  simp only [fiCells, List.mem_cons, List.not_mem_nil, or_false] at hu
  rcases hu with rfl | rfl | rfl <;> rfl
def fCells (L : List Fi) : List Value := L.flatMap fiCells
theorem fCells_one (L : List Fi) : ∀ u ∈ fCells L, u.oneCell' = true := by
  intro u hu
  obtain ⟨k, _, hk⟩ := List.mem_flatMap.1 hu
  exact fiCells_one k u hk
theorem fCells_length (L : List Fi) : (fCells L).length = L.length * 3 := by
  induction L with
  | nil => rfl
  | cons k r ih => rw [show fCells (k :: r) = fiCells k ++ fCells r from rfl, List.length_append, ih]; simp [fiCells]; omega
theorem fCells_append (a b : List Fi) : fCells (a ++ b) = fCells a ++ fCells b := by simp [fCells]
theorem fCells_cons (a : Fi) (b : List Fi) : fCells (a :: b) = fiCells a ++ fCells b := rfl
theorem fCells_take (L : List Fi) (k : Nat) (hk : k ≤ L.length) : (fCells L).take (k * 3) = fCells (L.take k) := by
  have h1 : fCells L = fCells (L.take k) ++ fCells (L.drop k) := by rw [← fCells_append, List.take_append_drop]
  have h2 : (fCells (L.take k)).length = k * 3 := by rw [fCells_length, List.length_take]; omega
  rw [h1, List.take_left' h2]
theorem fCells_drop (L : List Fi) (k : Nat) (hk : k ≤ L.length) : (fCells L).drop (k * 3) = fCells (L.drop k) := by
  have h1 : fCells L = fCells (L.take k) ++ fCells (L.drop k) := by rw [← fCells_append, List.take_append_drop]
  have h2 : (fCells (L.take k)).length = k * 3 := by rw [fCells_length, List.length_take]; omega
  rw [h1, List.drop_left' h2]
/-- The disk in memory: its files in their order. -/
structure RefD (w : World) (x : Nat) (rb : Option Nat) (cap : Nat) (st : St) : Prop where
  disk : w.heap[x]? = some (.cells #[.slice (rb.map fun b => ⟨b, 0, none⟩) st.files.length cap, .int .i64 st.room, .int .i64 st.after, .int .i64 st.torn, .bool st.dead] 86 (0, 0))
  row : VRow 91 3 w rb cap st.files.length (fCells st.files)
  srt : Srt st.files
  small : st.Small
def rfoot (x : Nat) (rb : Option Nat) (k : Nat) : Prop := k = x ∨ rb = some k
section
variable {w W : World} {x : Nat} {rb : Option Nat} {cap : Nat} {st : St}
theorem RefD.kept (h : RefD w x rb cap st) (hk : ∀ k, rfoot x rb k → W.heap[k]? = w.heap[k]?) : RefD W x rb cap st :=
  ⟨(hk x (.inl rfl)).trans h.disk, h.row.kept fun b e => hk b (.inr e), h.srt, h.small⟩
theorem RefD.lt (h : RefD w x rb cap st) {k : Nat} (hk : rfoot x rb k) : k < w.heap.size := by
  rcases hk with rfl | e
  · exact lt_of_block h.disk
  · have := h.row; rw [e] at this; exact this.lt
theorem RefD.below (h : RefD w x rb cap st) (hb : Below w.heap.size w W) : RefD W x rb cap st := h.kept fun k hk => hb.block k (h.lt hk)
theorem RefD.rb_ne (h : RefD w x rb cap st) {b : Nat} (e : rb = some b) : b ≠ x := by
  have hl := h.row; rw [e] at hl
  obtain ⟨row, hr⟩ := hl.block
  intro e2
  subst e2; have := h.disk; rw [hr] at this
  simp only [Option.some.injEq, Obj.cells.injEq] at this
  exact absurd this.2.1 (by decide)
theorem RefD.cell (h : RefD w x rb cap st) : w.cell? ⟨x, 0, none⟩ = some (.slice (rb.map fun b => ⟨b, 0, none⟩) st.files.length cap) ∧ w.cell? ⟨x, 1, none⟩ = some (.int .i64 st.room) ∧ w.cell? ⟨x, 2, none⟩ = some (.int .i64 st.after) ∧
    w.cell? ⟨x, 3, none⟩ = some (.int .i64 st.torn) ∧ w.cell? ⟨x, 4, none⟩ = some (.bool st.dead) := by
  refine ⟨?_, ?_, ?_, ?_, ?_⟩ <;> rw [cell_of_row _ _ _ _ _ _ h.disk] <;> rfl
theorem RefD.free (h : RefD w x rb cap st) (i : Nat) : w.frozen? ⟨x, i, none⟩ = false := frozen_of_row _ _ _ _ _ h.disk
/-- The cells of a file. -/
theorem RefD.file (h : RefD w x rb cap st) (j : Nat) (hj : j < st.files.length) : ∃ b, rb = some b ∧ b < w.heap.size ∧ w.cell? ⟨b, j * 3, none⟩ = some (.string st.files[j].name) ∧ w.cell? ⟨b, j * 3 + 1, none⟩ = some (.string (txt st.files[j].bytes)) ∧
    w.cell? ⟨b, j * 3 + 2, none⟩ = some (.int .i64 (st.files[j].synced : Int)) ∧ ∀ i, w.frozen? ⟨b, i, none⟩ = false := by
  have hlen := h.row.1
  have hg := fun i (hi : i < 3) => flat_get fiCells 3 st.files (fun _ _ => rfl) j hj i hi
  cases hrb : rb with
  | none => have hr := h.row; rw [hrb] at hr; have := hr.nil.2.1; omega
  | some b =>
    have hr := h.row
    rw [hrb] at hr
    have key : ∀ i, i < 3 → w.cell? ⟨b, j * 3 + i, none⟩ = (fiCells st.files[j])[i]? := fun i hi => by
      have hlt : j * 3 + i < (fCells st.files).length := by rw [fCells_length]; omega
      obtain ⟨b2, hb2, hc⟩ := hr.cell (j * 3 + i) hlt
      cases hb2
      rw [hc, ← hg i hi, ← List.getElem?_eq_getElem hlt]; rfl
    obtain ⟨row, hrow⟩ := hr.block
    exact ⟨b, rfl, hr.lt, key 0 (by omega), key 1 (by omega), key 2 (by omega), fun i => frozen_of_row _ _ _ _ _ hrow⟩
end
def RD (w : World) (x : Nat) (st : St) (F : Nat → Prop) : Prop := ∃ rb cap, RefD w x rb cap st ∧ F = rfoot x rb
def RDT (w : World) (x : Nat) (F : Nat → Prop) (st : St) (w' : World) : Prop := ∃ F', RD w' x st F' ∧ Eff F w F' w'
section
variable {w W : World} {x : Nat} {rb : Option Nat} {cap : Nat} {st : St}
theorem RefD.turn (h : RefD w x rb cap st) (hb : Below w.heap.size w W) : RDT w x (rfoot x rb) st W := ⟨_, ⟨rb, cap, h.below hb, rfl⟩, Eff.below hb⟩
/-- One of the disk's numbers is another one now. -/
theorem RefD.set (h : RefD w x rb cap st) (st' : St) (hf : st'.files = st.files) (hs : st'.Small) (i : Nat) (v : Value)
    (he : (#[Value.slice (rb.map fun b => ⟨b, 0, none⟩) st.files.length cap, .int .i64 st.room, .int .i64 st.after, .int .i64 st.torn, .bool st.dead] : Array Value).setIfInBounds i v = #[.slice (rb.map fun b => ⟨b, 0, none⟩) st'.files.length cap, .int .i64 st'.room, .int .i64 st'.after, .int .i64 st'.torn, .bool st'.dead]) :
    RefD (w.setCell ⟨x, i, none⟩ v) x rb cap st' ∧ Eff (rfoot x rb) w (rfoot x rb) (w.setCell ⟨x, i, none⟩ v) := by
  refine ⟨⟨by rw [setCell_block _ h.disk, he], ?_, by rw [hf]; exact h.srt, hs⟩, rfl, rfl, rfl, by simp, fun k _ hn => setCell_other _ fun e => hn (.inl e), fun k hk => .inl hk⟩
  rw [hf]
  exact h.row.kept fun b e => setCell_other _ (h.rb_ne e)
def stepSt (st : St) : St := { st with after := if 0 < st.after then st.after - 1 else st.after }
theorem stepSt_small (h : st.Small) : (stepSt st).Small := by
  refine ⟨h.total, h.room, ?_⟩
  have := h.after
  unfold stepSt
  dsimp only
  split <;> omega
set_option maxRecDepth 100000 in
theorem rcrash_dead (h : RefD w x rb cap st) (hd : st.dead = true) : Calls Try.prog 77 #[.pointer (some ⟨x, 0, none⟩)] w fun e w' => e = .returned (.int .i64 2) ∧ w = w' := by
  obtain ⟨_, _, _, _, c4⟩ := h.cell
  rw [hd] at c4
  clear h hd
  go_enter Try.func77, Try.ntmps77
  go_wp2_with fail
  go_ret
  exact ⟨rfl, rfl⟩
set_option maxRecDepth 100000 in
theorem rcrash_now (h : RefD w x rb cap st) (hd : st.dead = false) (ha : st.after = 0) : Calls Try.prog 77 #[.pointer (some ⟨x, 0, none⟩)] w fun e w' => e = .returned (.int .i64 1) ∧
    RefD w' x rb cap { st with dead := true } ∧ Eff (rfoot x rb) w (rfoot x rb) w' := by
  have hset := h.set { st with dead := true } rfl ⟨h.small.total, h.small.room, h.small.after⟩ 4 (.bool true) rfl
  obtain ⟨_, _, c2, _, c4⟩ := h.cell
  have f4 := h.free 4
  rw [hd] at c4
  rw [ha] at c2
  have H := Lib.hid hset
  clear h hd ha hset
  go_enter Try.func77, Try.ntmps77
  go_wp2_with fail
  go_ret
  exact ⟨rfl, H.out⟩
set_option maxRecDepth 100000 in
theorem rcrash_go (h : RefD w x rb cap st) (hd : st.dead = false) (ha : st.after ≠ 0) : Calls Try.prog 77 #[.pointer (some ⟨x, 0, none⟩)] w fun e w' => e = .returned (.int .i64 0) ∧
    RefD w' x rb cap (stepSt st) ∧ Eff (rfoot x rb) w (rfoot x rb) w' := by
  obtain ⟨_, _, c2, _, c4⟩ := h.cell
  have f2 := h.free 2
  have hmax := h.small.after
  rw [hd] at c4
  obtain ⟨a, hae⟩ : ∃ a, a = st.after := ⟨_, rfl⟩
  rw [← hae] at c2 hmax ha
  have ha0 : (a == 0) = false := by simpa using ha
  by_cases hp : 0 < a
  · have hset := h.set (stepSt st) rfl (stepSt_small h.small) 2 (.int .i64 (a - 1)) (by unfold stepSt; dsimp only; rw [← hae, if_pos hp]; rfl)
    have H := Lib.hid hset
    clear h hd ha hset hae
    go_enter Try.func77, Try.ntmps77
    go_wp2_with fail
    go_ret
    exact ⟨rfl, H.out⟩
  · have hst : stepSt st = st := by unfold stepSt; rw [← hae, if_neg hp]; cases st; simp at hae; rw [hae]
    have H := Lib.hid (And.intro hst h)
    clear h hd ha hae hst
    go_enter Try.func77, Try.ntmps77
    go_wp2_with fail
    go_ret
    exact ⟨rfl, by rw [H.out.1]; exact H.out.2, Eff.refl _ _⟩
theorem ftotal_take {L : List Fi} {j : Nat} (hj : j < L.length) : ftotal (L.take (j + 1)) = ftotal (L.take j) + L[j].bytes.length := by
  rw [List.take_succ_eq_append_getElem hj, ftotal_append]
  simp [ftotal]
theorem ftotal_take_le (L : List Fi) (j : Nat) : ftotal (L.take j) ≤ ftotal L := by
  have h := ftotal_append (L.take j) (L.drop j)
  rw [List.take_append_drop] at h
  omega
set_option maxRecDepth 100000 in
set_option maxHeartbeats 800000 in
theorem rused_c (h : RefD w x rb cap st) (hlen : st.files.length < 1000000) : Calls Try.prog 78 #[.pointer (some ⟨x, 0, none⟩)] w fun e w' => e = .returned (.int .i64 (ftotal st.files : Nat)) ∧ w = w' := by
  have c0 := h.cell.1
  obtain ⟨n, hn⟩ : ∃ n, n = st.files.length := ⟨_, rfl⟩
  obtain ⟨ra, hra⟩ : ∃ ra : Option Addr, ra = rb.map fun b => ⟨b, 0, none⟩ := ⟨_, rfl⟩
  rw [← hra, ← hn] at c0
  have hn' : (n : Int) ≤ 1000000 := by omega
  have H := Lib.hid (And.intro h (And.intro hn hra))
  clear h hlen hn hra
  go_enter Try.func78, Try.ntmps78
  go_wp2_with fail
  go_loop [3, 4] (fun t i => ∃ j : Nat, i = .int .i64 j ∧ (j : Int) ≤ n ∧ t = .int .i64 (ftotal (st.files.take j) : Nat)) (fun _ i => n - (intOf i).toNat)
  case atStart => exact ⟨0, rfl, by omega, rfl⟩
  case round =>
    obtain ⟨j, rfl, hj, rfl⟩ := hrel
    have hj0 : (0 : Int) ≤ (j : Int) := by omega
    obtain ⟨t, ht⟩ : ∃ t, t = ftotal (st.files.take j) := ⟨_, rfl⟩
    rw [← ht]
    have htb : (t : Int) ≤ 1099511627776 := by have := ftotal_take_le st.files j; have := H.out.1.small.total; omega
    have ht0 : (0 : Int) ≤ (t : Int) := by omega
    by_cases hlt : (j : Int) < (n : Int)
    · have hjl : j < st.files.length := by have := H.out.2.1; omega
      obtain ⟨b, hb, hbl, _, d1, _, _⟩ := H.out.1.file j hjl
      have ea : ra = some ⟨b, 0, none⟩ := by rw [H.out.2.2, hb]; rfl
      have hst := ftotal_take hjl
      rw [← ht] at hst
      have hsz := txt_size st.files[j].bytes
      have hzt : ftotal (st.files.take (j + 1)) ≤ 1099511627776 := by have := ftotal_take_le st.files (j + 1); have := H.out.1.small.total; omega
      obtain ⟨z, hz⟩ : ∃ z, z = txt st.files[j].bytes := ⟨_, rfl⟩
      rw [← hz] at d1 hsz
      rw [← hsz] at hst
      have hzb : (z.size : Int) ≤ 1099511627776 := by omega
      subst ea
      have HS := Lib.hid hst
      clear hst hz hsz hb hbl ht hzt
      go_wp2_with fail
      go_round
      case rel => exact ⟨j + 1, by go_num, by omega, by rw [HS.out]; go_num⟩
      case measure => simp [intOf]; omega
    · have hjn : st.files.take j = st.files := List.take_of_length_le (by have := H.out.2.1; omega)
      rw [hjn] at ht
      have HT := Lib.hid ht
      clear ht hjn
      go_wp2_with fail
      go_ret
      exact ⟨by rw [← HT.out]; rfl, rfl⟩
end
end Go.Proofs.Ytmjeanbbhacnaaa
namespace Go.Proofs.Ytmjeanbbhacnaaa
open Go.RowKit
attribute [local go_sem ↓] Go.wp_at_zero Go.wp_at_succ
theorem bytes_eq' (a b : ByteArray) : (a.toList == b.toList) = true ↔ a = b := by rw [← beq_toListBytes]; exact MapKept.bytes_beq a b
section
variable {w W : World} {x : Nat} {rb : Option Nat} {cap : Nat} {st : St}
set_option maxRecDepth 100000 in
set_option maxHeartbeats 1600000 in
theorem rfind_c (h : RefD w x rb cap st) (n : ByteArray) (k : Nat) (hp : Place st.files n k) (hlen : st.files.length < 1000000) :
    Calls Try.prog 79 #[.pointer (some ⟨x, 0, none⟩), .string n] w fun e w' => e = .returned (.tuple #[.int .i64 (k : Int), .bool (fget st.files n).isSome]) ∧ Below w.heap.size w w' := by
  have c0 := h.cell.1
  have hfd := hp.found h.srt
  obtain ⟨B, hB⟩ : ∃ B, B = (fget st.files n).isSome := ⟨_, rfl⟩
  rw [← hB] at hfd ⊢
  obtain ⟨l, hl⟩ : ∃ l, l = st.files.length := ⟨_, rfl⟩
  obtain ⟨ra, hra⟩ : ∃ ra : Option Addr, ra = rb.map fun b => ⟨b, 0, none⟩ := ⟨_, rfl⟩
  rw [← hra, ← hl] at c0
  have hl' : (l : Int) ≤ 1000000 := by omega
  have H := Lib.hid (And.intro h (And.intro hl (And.intro hra (And.intro hp hfd))))
  clear h hlen hl hra hp hfd hB
  go_enter Try.func79, Try.ntmps79
  go_wp2_with fail
  go_loop [6] (fun i => ∃ j : Nat, i = .int .i64 j ∧ (j : Int) ≤ l ∧ ∀ i (h : i < st.files.length), i < j → bl st.files[i].name n = true) (fun i => l - (intOf i).toNat)
  case atStart => exact ⟨0, rfl, by omega, fun i _ h0 => absurd h0 (Nat.not_lt_zero _)⟩
  case round =>
    obtain ⟨j, rfl, hj, hall⟩ := hrel
    have hj0 : (0 : Int) ≤ (j : Int) := by omega
    by_cases hlt : (j : Int) < (l : Int)
    · have hjl : j < st.files.length := by have := H.out.2.1; omega
      obtain ⟨b, hb, hbl, d0, _, _, _⟩ := H.out.1.file j hjl
      have ea : ra = some ⟨b, 0, none⟩ := by rw [H.out.2.2.1, hb]; rfl
      obtain ⟨y, hy⟩ : ∃ y, y = st.files[j].name := ⟨_, rfl⟩
      rw [← hy] at d0
      by_cases hbt : bl y n = true
      · have g1 : Op.bytesLess y.toList n.toList = true := hbt
        have HN : Hid (∀ i (h : i < st.files.length), i < j + 1 → bl st.files[i].name n = true) := Lib.hid (fun i hi hlt => by
          by_cases e : i = j
          · subst e; rw [← hy]; exact hbt
          · exact hall i hi (by omega))
        subst ea
        clear hall hb hbl hy hbt
        go_wp2_with fail
        go_round
        case rel => exact ⟨j + 1, by go_num, by omega, HN.out⟩
        case measure => simp [intOf]; omega
      · have g1 : Op.bytesLess y.toList n.toList = false := Bool.eq_false_iff.2 hbt
        have hpl : Place st.files n j := ⟨by omega, hall, fun _ => by rw [← hy]; exact Bool.eq_false_iff.2 hbt⟩
        obtain rfl : k = j := hpl.unique H.out.2.2.2.1
        have hB : (y.toList == n.toList) = B := by
          rw [Bool.eq_iff_iff, bytes_eq', H.out.2.2.2.2]
          exact ⟨fun e => ⟨hjl, by rw [← hy]; exact e⟩, fun ⟨_, e⟩ => by rw [hy]; exact e⟩
        subst ea
        clear hall hb hbl hy hbt hpl
        go_upto_region 5 with fail
        go_quiet (fail)
        go_wp2_with fail
        go_ret2
        exact ⟨rfl, ⟨rfl, rfl, rfl, Nat.le_refl _, fun _ _ => rfl⟩⟩
    · have hpl : Place st.files n j := ⟨by have := H.out.2.1; omega, hall, fun h => absurd h (by have := H.out.2.1; omega)⟩
      obtain rfl : k = j := hpl.unique H.out.2.2.2.1
      have hB : B = false := Bool.eq_false_iff.2 fun e => by
        obtain ⟨hk, _⟩ := H.out.2.2.2.2.1 e
        have := H.out.2.1; omega
      have hkl : (l : Int) = (k : Int) := by omega
      have HB := Lib.hid (And.intro hB hkl)
      clear hall hpl hB hkl
      go_wp2_with fail
      go_ret2
      exact ⟨by rw [HB.out.1, ← HB.out.2]; rfl, Below.refl _ _⟩
set_option maxRecDepth 100000 in
set_option maxHeartbeats 800000 in
theorem rread_c (h : RefD w x rb cap st) (n : ByteArray) (hlen : st.files.length < 1000000) :
    Calls Try.prog 60 #[.pointer (some ⟨x, 0, none⟩), .string n] w fun e w' => e = .returned (.tuple #[.string (rdText st.files n), .bool (rdThere st.files n)]) ∧ Below w.heap.size w w' := by
  obtain ⟨k, hp⟩ := place_ex st.files n
  have hfind := rfind_c h n k hp hlen
  unfold rdText rdThere
  cases hg : fget st.files n with
  | none =>
    rw [hg] at hfind
    have Hf : Hid (Calls Try.prog 79 #[.pointer (some ⟨x, 0, none⟩), .string n] w fun e w' => e = .returned (.tuple #[.int .i64 (k : Int), .bool false]) ∧ Below w.heap.size w w') := Lib.hid hfind
    clear hfind h hp hg hlen
    go_enter Try.func60, Try.ntmps60
    go_wp2_with fail
    refine Hf.out.mono ?_
    rintro e w1 ⟨rfl, hb⟩
    have Hb := Lib.hid hb
    clear hb
    go_wp2_with fail
    go_ret2
    exact ⟨rfl, Hb.out⟩
  | some f =>
    rw [hg] at hfind
    obtain ⟨hk, hfk, _⟩ := hp.yes h.srt hg
    have Hf : Hid (Calls Try.prog 79 #[.pointer (some ⟨x, 0, none⟩), .string n] w fun e w' => e = .returned (.tuple #[.int .i64 (k : Int), .bool true]) ∧ Below w.heap.size w w') := Lib.hid hfind
    obtain ⟨l, hl⟩ : ∃ l, l = st.files.length := ⟨_, rfl⟩
    have hkI : (k : Int) < (l : Int) := by omega
    have hk0 : (0 : Int) ≤ (k : Int) := by omega
    have hl' : (l : Int) ≤ 1000000 := by omega
    have H := Lib.hid (And.intro h (And.intro hl (And.intro hk hfk)))
    clear hfind h hp hg hlen hl hfk
    go_enter Try.func60, Try.ntmps60
    go_wp2_with fail
    refine Hf.out.mono ?_
    rintro e w1 ⟨rfl, hb⟩
    have h1 := H.out.1.below hb
    have c0 := h1.cell.1
    rw [← H.out.2.1] at c0
    obtain ⟨b, rfl, _, _, d1, _, _⟩ := h1.file k hk
    have hfk := H.out.2.2.2
    rw [hfk] at d1
    have Hb := Lib.hid hb
    obtain ⟨T, hT⟩ : ∃ T, T = txt f.bytes := ⟨_, rfl⟩
    rw [← hT] at d1
    have HT := Lib.hid hT
    clear hb h1 hfk hT
    go_wp2_with fail
    go_ret2
    exact ⟨by rw [HT.out]; rfl, Hb.out⟩
set_option maxRecDepth 100000 in
theorem rarm_c (h : RefD w x rb cap st) (a t : Int) (ha : a ≤ 9223372036854775807) :
    Calls Try.prog 57 #[.pointer (some ⟨x, 0, none⟩), .int .i64 a, .int .i64 t] w fun e w' => e = .returned (.tuple #[]) ∧ RDT w x (rfoot x rb) { st with after := max a (-1), torn := t } w' := by
  have h1 := h.set { st with after := max a (-1) } rfl ⟨h.small.total, h.small.room, by show max a (-1) ≤ _; omega⟩ 2 (.int .i64 (max a (-1))) rfl
  have h2 := h1.1.set { st with after := max a (-1), torn := t } rfl ⟨h.small.total, h.small.room, by show max a (-1) ≤ _; omega⟩ 3 (.int .i64 t) rfl
  obtain ⟨_, _, c2, c3, _⟩ := h.cell
  obtain ⟨_, _, _, d3, _⟩ := h1.1.cell
  have f2 := h.free 2
  have f3 := h1.1.free 3
  obtain ⟨m, hm⟩ : ∃ m, m = max a (-1) := ⟨_, rfl⟩
  obtain ⟨W1, hW1⟩ : ∃ W1, W1 = w.setCell ⟨x, 2, none⟩ (.int .i64 m) := ⟨_, rfl⟩
  rw [← hm, ← hW1] at h1 h2 d3 f3
  rw [← hm]
  have H := Lib.hid (And.intro h1.2 h2)
  have HW1 := Lib.hid hW1
  have hm2 : max a (-1) = m := hm.symm
  clear h h1 h2 hm hW1 ha
  go_enter Try.func57, Try.ntmps57
  go_upto_region 1 with fail
  rw [← HW1.out]
  go_wp2_with fail
  go_end0
  exact ⟨rfl, _, ⟨rb, cap, H.out.2.1, rfl⟩, H.out.1.trans H.out.2.2⟩
end
end Go.Proofs.Ytmjeanbbhacnaaa
namespace Go.Proofs.Ytmjeanbbhacnaaa
open Go.RowKit
attribute [local go_sem ↓] Go.wp_at_zero Go.wp_at_succ
theorem info_file : (Try.prog.info? 91).map (fun i => (i.zero, i.size, i.bytes)) = some (some (.agg #[.string ⟨#[]⟩, .string ⟨#[]⟩, .int .i64 0]), 3, 40) := by kernel_rfl
theorem setCells_other (b o : Nat) (vs : List Value) : ∀ (w : World) (k : Nat), k ≠ b → (w.setCells b o vs).heap[k]? = w.heap[k]? := by
  induction vs generalizing o with
  | nil => intro w k _; rfl
  | cons v r ih => intro w k hk; exact (ih (o + 1) _ k hk).trans (setCell_other v hk)
section
variable {w W : World} {x : Nat} {rb : Option Nat} {cap : Nat} {st : St}
theorem RefD.replaceRow (h : RefD w x rb cap st) (hb : Below w.heap.size w W) (L' : List Fi) (hs : Srt L') (hsm : St.Small { st with files := L' }) (gb' : Option Nat) (cap' n' : Nat) (hn : n' = L'.length) (hR : VRow 91 3 W gb' cap' n' (fCells L')) (hnew : ∀ b, gb' = some b → w.heap.size ≤ b) :
    RDT w x (rfoot x rb) { st with files := L' } (W.setCell ⟨x, 0, none⟩ (.slice (gb'.map fun b => ⟨b, 0, none⟩) n' cap')) := by
  subst hn
  have hx := lt_of_block h.disk
  have hsz : (W.setCell ⟨x, 0, none⟩ (.slice (gb'.map fun b => ⟨b, 0, none⟩) L'.length cap')).heap.size = W.heap.size := by simp
  have hd := (hb.block x hx).trans h.disk
  refine ⟨rfoot x gb', ⟨gb', cap', ⟨?_, ?_, hs, hsm⟩, rfl⟩, hb.os, hb.tape, hb.output, by rw [hsz]; exact hb.size, fun k hk hn => ?_, fun k hk => ?_⟩
  · rw [setCell_block _ hd]; rfl
  · exact hR.kept fun b e => setCell_other _ (by have := hnew b e; omega)
  · rw [setCell_other _ (fun e => hn (.inl e))]; exact hb.block k hk
  · rw [hsz]
    rcases hk with e | e
    · exact .inl (.inl e)
    · rw [e] at hR
      exact .inr ⟨hnew k e, hR.lt⟩
theorem fCells_set_get (L : List Fi) (k : Nat) (f : Fi) (i : Nat) (hi : i < L.length * 3) : (fCells (L.set k f))[i]? = if k * 3 ≤ i ∧ i < k * 3 + 3 then (fiCells f)[i - k * 3]? else (fCells L)[i]? := by
  have hi3 : i / 3 < L.length := by omega
  have hd : i = i / 3 * 3 + i % 3 := by omega
  have h1 := flat_get fiCells 3 (L.set k f) (fun _ _ => rfl) (i / 3) (by simpa using hi3) (i % 3) (by omega)
  have h2 := flat_get fiCells 3 L (fun _ _ => rfl) (i / 3) hi3 (i % 3) (by omega)
  rw [← hd] at h1 h2
  unfold fCells
  rw [h1, h2, List.getElem_set]
  by_cases e : k = i / 3
  · rw [if_pos e, if_pos (by omega)]
    congr 1; omega
  · rw [if_neg e, if_neg (by omega)]
theorem RefD.storeFile {b : Nat} (h : RefD w x (some b) cap st) (k : Nat) (_ : k < st.files.length) (f : Fi) (hs : Srt (st.files.set k f)) (hsm : St.Small { st with files := st.files.set k f }) :
    RDT w x (rfoot x (some b)) { st with files := st.files.set k f } (w.setCells b (k * 3) (fiCells f)) := by
  have hbx := h.rb_ne rfl
  have hg := setCells_grown w b (k * 3) (fiCells f)
  have hl : (st.files.set k f).length = st.files.length := List.length_set
  obtain ⟨q1, q2, row, q3, q4, q5⟩ := h.row
  refine ⟨rfoot x (some b), ⟨some b, cap, ⟨?_, ?_, hs, hsm⟩, rfl⟩, hg.os, hg.tape, hg.output, hg.size, fun k hk hn => setCells_other _ _ _ _ _ fun e => hn (.inr (by rw [e])), fun k hk => .inl hk⟩
  · show (w.setCells b (k * 3) (fiCells f)).heap[x]? = _
    rw [setCells_other _ _ _ _ _ hbx.symm, h.disk, hl]
  · show VRow _ 3 _ (some b) cap (st.files.set k f).length (fCells (st.files.set k f))
    rw [hl]
    refine ⟨by rw [fCells_length, hl], q2, _, setCells_block b _ _ _ _ _ _ q3, by rw [setMany_size, q4], fun i hi => ?_⟩
    rw [fCells_length, hl] at hi
    rw [fCells_set_get _ _ _ _ hi]
    have hf3 : (fiCells f).length = 3 := rfl
    by_cases e : k * 3 ≤ i ∧ i < k * 3 + 3
    · rw [if_pos e]
      have hcap : st.files.length * 3 ≤ cap * 3 := Nat.mul_le_mul_right _ q2
      have := setMany_in (fiCells f) row (k * 3) (i - k * 3) (by rw [q4, hf3]; omega) (by rw [hf3]; omega)
      rw [show k * 3 + (i - k * 3) = i by omega] at this
      exact this
    · rw [if_neg e]
      have hq := q5 i (by rw [fCells_length]; exact hi)
      by_cases e2 : i < k * 3
      · rw [setMany_lt _ _ _ _ e2]; exact hq
      · have key : ∀ (vs : List Value) (cs : Array Value) (o : Nat), o + vs.length ≤ i → (setMany cs o vs)[i]? = cs[i]? := by
          intro vs
          induction vs with
          | nil => intro cs o _; rfl
          | cons v r ih => intro cs o hle; simp only [List.length_cons] at hle; rw [setMany, ih _ _ (by omega), Array.getElem?_setIfInBounds, if_neg (by omega)]
        rw [key _ _ _ (by rw [hf3]; omega)]
        exact hq
/-- What the three appends of put leave. -/
theorem put_world (h : RefD w x rb cap st) (k : Nat) (hk : k ≤ st.files.length) (f : Fi) (hlen : st.files.length < 1000000) (m : Nat) (hm : m = st.files.length) (ra sa : Option Addr) (hra : ra = rb.map fun b => ⟨b, 0, none⟩)
    (hsa : VArg 3 w sa (cap - k) (m - k) ((fCells st.files).drop (k * 3))) (ty : TypeId) :
    ∃ (tb : Option Nat) (tc : Nat) (W1 : World) (b2 : Option Nat) (c2 : Nat) (W2 : World) (b3 : Option Nat) (c3 : Nat) (W3 : World),
      (Builtin.append_ #[84, 84] ty #[.slice none 0 0, .slice ra k cap]).run Try.prog w = .ok (.slice (tb.map fun b => ⟨b, 0, none⟩) k tc) W1 ∧
      (Builtin.append_ #[84, 84] ty #[.slice (tb.map fun b => ⟨b, 0, none⟩) k tc, .slice (some ⟨W1.heap.size, 0, none⟩) 1 1]).run Try.prog (W1.alloc (.cells #[.string f.name, .string (txt f.bytes), .int .i64 (f.synced : Int)] 91 (0, 0))) = .ok (.slice (b2.map fun b => ⟨b, 0, none⟩) (k + 1) c2) W2 ∧
      (Builtin.append_ #[84, 84] ty #[.slice (b2.map fun b => ⟨b, 0, none⟩) (k + 1) c2, .slice sa (m - k) (cap - k)]).run Try.prog W2 = .ok (.slice (b3.map fun b => ⟨b, 0, none⟩) (m + 1) c3) W3 ∧
      VRow 91 3 W3 b3 c3 (m + 1) (fCells (st.files.take k ++ f :: st.files.drop k)) ∧ (∀ b, b3 = some b → w.heap.size ≤ b) ∧ Below w.heap.size w W1 ∧ Below w.heap.size w W2 ∧ Below w.heap.size w W3 := by
  obtain ⟨i, hi, hz, hsz, hby⟩ := info_parts info_file
  subst hm hra
  have hv := (h.row.arg (fCells_one _)).first k hk
  rw [fCells_take _ _ hk] at hv
  obtain ⟨tb, tc, W1, p1, p2, p3, p4⟩ := run_append_o w 84 ty 91 i _ Try.underlying84 hi hz (by rw [hsz]; rfl) (by omega) (by omega) none 0 0 [] ⟨(by rw [Nat.zero_mul]; rfl), Nat.le_refl _, rfl⟩ _ cap k _ (by rw [hsz]; exact hv) (by omega)
  rw [Nat.zero_add] at p1 p2
  rw [hsz, List.nil_append] at p2
  have p4' : Below w.heap.size w W1 := ⟨p4.os, p4.tape, p4.output, p4.size, fun k hk => p4.block k hk (fun e => by cases e)⟩
  have hs1 := p4.size
  have htb : ∀ b, tb = some b → w.heap.size ≤ b := fun b e => by
    rcases p3 b e with e | e
    · cases e
    · exact e
  obtain ⟨Wa, hWa⟩ : ∃ Wa, Wa = W1.alloc (.cells #[.string f.name, .string (txt f.bytes), .int .i64 (f.synced : Int)] 91 (0, 0)) := ⟨_, rfl⟩
  have hba : Below W1.heap.size W1 Wa := by rw [hWa]; exact (Below.refl _ _).alloc (Nat.le_refl _) _
  have hsa1 : Wa.heap.size = W1.heap.size + 1 := by rw [hWa]; exact World.size_alloc _ _
  have hnew : Wa.heap[W1.heap.size]? = some (.cells (fiCells f).toArray 91 (0, 0)) := by rw [hWa]; exact heap_alloc_new _ _
  have hvf : VArg 3 Wa (some ⟨W1.heap.size, 0, none⟩) 1 1 (fiCells f) := ⟨rfl, Nat.le_refl _, (fun e => by cases e), fiCells_one f, fun i hi => ⟨_, rfl, by rw [hsa1]; exact Nat.lt_succ_self _, by rw [add_head, cell_of_row _ _ _ _ _ _ hnew]; simp [hi]⟩⟩
  obtain ⟨b2, c2, W2, q1, q2, q3, q4⟩ := run_append_o Wa 84 ty 91 i _ Try.underlying84 hi hz (by rw [hsz]; rfl) (by omega) (by omega) tb tc k _ (by rw [hsz]; exact p2.below hba) _ 1 1 _ (by rw [hsz]; exact hvf) (by omega)
  rw [hsz] at q2
  have hs2 := q4.size
  have hb2 : ∀ b, b2 = some b → w.heap.size ≤ b := fun b e => by
    rcases q3 b e with e | e
    · exact htb b e
    · omega
  have hkw : ∀ b, b < w.heap.size → W2.heap[b]? = w.heap[b]? := fun b hb => by
    rw [q4.block b (by omega) (fun e => by have := htb b e.symm; omega), hba.block b (by omega)]
    exact p4'.block b hb
  have hbw2 : Below w.heap.size w W2 := ⟨q4.os.trans (hba.os.trans p4.os), q4.tape.trans (hba.tape.trans p4.tape), q4.output.trans (hba.output.trans p4.output), by omega, hkw⟩
  have hsa2 : VArg 3 W2 sa (cap - k) (st.files.length - k) ((fCells st.files).drop (k * 3)) := hsa.kept (by omega) (fun b _ hlt => hkw b.block hlt)
  obtain ⟨b3, c3, W3, r1, r2, r3, r4⟩ := run_append_o W2 84 ty 91 i _ Try.underlying84 hi hz (by rw [hsz]; rfl) (by omega) (by omega) b2 c2 (k + 1) _ (by rw [hsz]; exact q2) sa (cap - k) (st.files.length - k) _ (by rw [hsz]; exact hsa2) (by omega)
  rw [show k + 1 + (st.files.length - k) = st.files.length + 1 by omega] at r1 r2
  rw [hsz, fCells_drop _ _ hk] at r2
  have hs3 := r4.size
  refine ⟨tb, tc, W1, b2, c2, W2, b3, c3, W3, p1, by rw [← hWa]; exact q1, r1, ?_, ?_, p4', hbw2, ?_⟩
  · rw [fCells_append, fCells_cons, ← List.append_assoc]; exact r2
  · intro b e
    rcases r3 b e with e | e
    · exact hb2 b e
    · omega
  · exact ⟨r4.os.trans hbw2.os, r4.tape.trans hbw2.tape, r4.output.trans hbw2.output, by omega, fun b hb => (r4.block b (by omega) (fun e => by have := hb2 b e.symm; omega)).trans (hkw b hb)⟩
/-- What the two appends of drop leave. -/
theorem drop_world (h : RefD w x rb cap st) (k : Nat) (hk : k < st.files.length) (hlen : st.files.length < 1000000) (m : Nat) (hm : m = st.files.length) (ra sa : Option Addr) (hra : ra = rb.map fun b => ⟨b, 0, none⟩)
    (hsa : VArg 3 w sa (cap - (k + 1)) (m - (k + 1)) ((fCells st.files).drop ((k + 1) * 3))) (ty : TypeId) :
    ∃ (tb : Option Nat) (tc : Nat) (W1 : World) (b3 : Option Nat) (c3 : Nat) (W3 : World),
      (Builtin.append_ #[84, 84] ty #[.slice none 0 0, .slice ra k cap]).run Try.prog w = .ok (.slice (tb.map fun b => ⟨b, 0, none⟩) k tc) W1 ∧
      (Builtin.append_ #[84, 84] ty #[.slice (tb.map fun b => ⟨b, 0, none⟩) k tc, .slice sa (m - (k + 1)) (cap - (k + 1))]).run Try.prog W1 = .ok (.slice (b3.map fun b => ⟨b, 0, none⟩) (k + (m - (k + 1))) c3) W3 ∧
      VRow 91 3 W3 b3 c3 (k + (m - (k + 1))) (fCells (st.files.take k ++ st.files.drop (k + 1))) ∧ (∀ b, b3 = some b → w.heap.size ≤ b) ∧ Below w.heap.size w W1 ∧ Below w.heap.size w W3 := by
  obtain ⟨i, hi, hz, hsz, hby⟩ := info_parts info_file
  subst hm hra
  have hv := (h.row.arg (fCells_one _)).first k (by omega)
  rw [fCells_take _ _ (by omega)] at hv
  obtain ⟨tb, tc, W1, p1, p2, p3, p4⟩ := run_append_o w 84 ty 91 i _ Try.underlying84 hi hz (by rw [hsz]; rfl) (by omega) (by omega) none 0 0 [] ⟨(by rw [Nat.zero_mul]; rfl), Nat.le_refl _, rfl⟩ _ cap k _ (by rw [hsz]; exact hv) (by omega)
  rw [Nat.zero_add] at p1 p2
  rw [hsz, List.nil_append] at p2
  have p4' : Below w.heap.size w W1 := ⟨p4.os, p4.tape, p4.output, p4.size, fun k hk => p4.block k hk (fun e => by cases e)⟩
  have hs1 := p4.size
  have htb : ∀ b, tb = some b → w.heap.size ≤ b := fun b e => by
    rcases p3 b e with e | e
    · cases e
    · exact e
  obtain ⟨b3, c3, W3, r1, r2, r3, r4⟩ := run_append_o W1 84 ty 91 i _ Try.underlying84 hi hz (by rw [hsz]; rfl) (by omega) (by omega) tb tc k _ (by rw [hsz]; exact p2) sa (cap - (k + 1)) (st.files.length - (k + 1)) _ (by rw [hsz]; exact hsa.below p4') (by omega)
  rw [hsz, fCells_drop _ _ (by omega)] at r2
  have hs3 := r4.size
  refine ⟨tb, tc, W1, b3, c3, W3, p1, r1, by rw [fCells_append]; exact r2, ?_, p4', ?_⟩
  · intro b e
    rcases r3 b e with e | e
    · exact htb b e
    · omega
  · exact ⟨r4.os.trans p4.os, r4.tape.trans p4.tape, r4.output.trans p4.output, by omega, fun b hb => (r4.block b (by omega) (fun e => by have := htb b e.symm; omega)).trans (p4'.block b hb)⟩
end
end Go.Proofs.Ytmjeanbbhacnaaa
namespace Go.Proofs.Ytmjeanbbhacnaaa
open Go.RowKit
attribute [local go_sem ↓] Go.wp_at_zero Go.wp_at_succ
section
variable {w W : World} {x : Nat} {rb : Option Nat} {cap : Nat} {st : St}
set_option maxRecDepth 100000 in
set_option maxHeartbeats 3200000 in
theorem rput_new (h : RefD w x rb cap st) (f : Fi) (k : Nat) (hp : Place st.files f.name k) (hg : fget st.files f.name = none) (hs : Srt (st.files.take k ++ f :: st.files.drop k)) (hsm : St.Small { st with files := st.files.take k ++ f :: st.files.drop k }) (hlen : st.files.length < 1000000) :
    Calls Try.prog 80 #[.pointer (some ⟨x, 0, none⟩), .agg #[.string f.name, .string (txt f.bytes), .int .i64 (f.synced : Int)]] w fun e w' => e = .returned (.tuple #[]) ∧ RDT w x (rfoot x rb) { st with files := st.files.take k ++ f :: st.files.drop k } w' := by
  obtain ⟨W1, hW1⟩ : ∃ W1, W1 = w.alloc (.cells #[.string f.name, .string (txt f.bytes), .int .i64 (f.synced : Int)] 91 (0, 0)) := ⟨_, rfl⟩
  have hb1 : Below w.heap.size w W1 := by rw [hW1]; exact (Below.refl _ _).alloc (Nat.le_refl _) _
  have o1 : W1.heap[w.heap.size]? = some (.cells #[.string f.name, .string (txt f.bytes), .int .i64 (f.synced : Int)] 91 (0, 0)) := by rw [hW1]; exact heap_alloc_new _ _
  have hfind := rfind_c (h.below hb1) f.name k hp hlen
  rw [hg] at hfind
  have Hf : Hid (Calls Try.prog 79 #[.pointer (some ⟨x, 0, none⟩), .string f.name] W1 fun e w' => e = .returned (.tuple #[.int .i64 (k : Int), .bool false]) ∧ Below W1.heap.size W1 w') := Lib.hid hfind
  have hkl := hp.le
  obtain ⟨N, hN⟩ : ∃ N, N = f.name := ⟨_, rfl⟩
  obtain ⟨T, hT⟩ : ∃ T, T = txt f.bytes := ⟨_, rfl⟩
  obtain ⟨Q, hQ⟩ : ∃ Q, Q = w.heap.size := ⟨_, rfl⟩
  obtain ⟨m, hm⟩ : ∃ m, m = st.files.length := ⟨_, rfl⟩
  have hkm : (k : Int) ≤ (m : Int) := by omega
  have hk0 : (0 : Int) ≤ (k : Int) := by omega
  have hmI : (m : Int) ≤ 1000000 := by omega
  have hmc : (m : Int) ≤ (cap : Int) := by have := h.row.2.1; omega
  rw [← hN] at Hf hW1 ⊢
  rw [← hT] at hW1 ⊢
  rw [← hQ] at o1
  have c1 : W1.cell? ⟨Q, 0, none⟩ = some (.string N) := by rw [cell_of_row _ _ _ _ _ _ o1, hN]; rfl
  have hx1 := (h.below hb1).cell.1
  rw [← hm] at hx1
  have H := Lib.hid (And.intro h (And.intro hb1 (And.intro o1 (And.intro hs (And.intro hsm (And.intro hlen (And.intro hm (And.intro hN (And.intro hT hkl)))))))))
  have HW1 := Lib.hid hW1
  have HQ := Lib.hid hQ
  have hnil : rb = none → m = 0 ∧ cap = 0 := fun e => by have hr := h.row; rw [e] at hr; have := hr.nil; exact ⟨by omega, this.2.2⟩
  clear h hp hg hs hsm hlen hb1 o1 hfind hkl hN hT hQ hm hW1
  cases rb with
  | none =>
    obtain ⟨hm0, hc0⟩ := hnil rfl
    obtain rfl : k = 0 := by omega
    subst hm0 hc0
    clear hnil
    skip
    go_enter Try.func80, Try.ntmps80
    go_upto_region 1 with fail
    rw [← HW1.out, ← HQ.out]
    go_wp2_with fail
    refine Hf.out.mono ?_
    rintro e w1 ⟨rfl, hb⟩
    obtain ⟨h, hb1, o1, hs, hsm, hlen, hm, hN, hT, hkl⟩ := H.out
    have hb2 : Below w.heap.size w w1 := hb1.trans (hb.mono hb1.size)
    have h1 := h.below hb2
    have o2 := (hb.block _ (lt_of_block o1)).trans o1
    have hv : VArg 3 w1 none (0 - 0) (0 - 0) ((fCells st.files).drop (0 * 3)) := by
      have : st.files = [] := List.length_eq_zero_iff.1 hm.symm
      rw [this]
      exact ⟨rfl, Nat.le_refl _, fun _ => rfl, (fun u hu => by cases hu), fun i hi => absurd hi (Nat.not_lt_zero _)⟩
    obtain ⟨tb, tc, V1, b2, c2, V2, b3, c3, V3, k1, k2, k3, k4, k5, k6, k7, k8⟩ := put_world h1 0 hkl f hlen 0 hm _ _ rfl hv 84
    have hs1 := hb2.size
    have d0 := h1.cell.1
    rw [← hm] at d0
    have e0 := (h1.below k7).cell.1
    rw [← hm] at e0
    have z0 := (h1.below k8).cell.1
    have z0f := (h1.below k8).free 0
    have o3 := (k6.block _ (lt_of_block o2)).trans o2
    have p0 : V1.cell? ⟨Q, 0, none⟩ = some (.string N) := by rw [cell_of_row _ _ _ _ _ _ o3, hN]; rfl
    have p1 : V1.cell? ⟨Q, 1, none⟩ = some (.string T) := by rw [cell_of_row _ _ _ _ _ _ o3, hT]; rfl
    have p2 : V1.cell? ⟨Q, 2, none⟩ = some (.int .i64 (f.synced : Int)) := by rw [cell_of_row _ _ _ _ _ _ o3]; rfl
    obtain ⟨ta, hta⟩ : ∃ ta : Option Addr, ta = tb.map fun b => ⟨b, 0, none⟩ := ⟨_, rfl⟩
    obtain ⟨a2, ha2⟩ : ∃ ta : Option Addr, ta = b2.map fun b => ⟨b, 0, none⟩ := ⟨_, rfl⟩
    obtain ⟨a3, ha3⟩ : ∃ ta : Option Addr, ta = b3.map fun b => ⟨b, 0, none⟩ := ⟨_, rfl⟩
    have hfin := h.replaceRow (hb2.trans (k8.mono hb2.size)) _ hs hsm b3 c3 (0 + 1) (by rw [hm, List.length_append, List.length_cons, List.length_take, List.length_drop]; omega) k4 (fun b e => by have := k5 b e; omega)
    rw [← hta, ← hN, ← hT] at k2
    rw [← hta] at k1
    rw [← ha2] at k2 k3
    rw [← ha3] at k3 hfin
    rw [Nat.sub_self] at k3
    have K1 := Lib.hid k1
    have K2 := Lib.hid k2
    have K3 := Lib.hid k3
    have KR := Lib.hid hfin
    clear h hb hb1 o1 hs hsm hlen hm hN hT hkl hb2 h1 o2 hv k1 k2 k3 k4 k5 k6 k7 k8 hs1 o3 hta ha2 ha3 hfin c1 hx1
    have tok1 : True := trivial
    have tok2 : True := trivial
    have tok3 : True := trivial
    go_wp2_with (first | (at_builtin; have _t := tok1; refine wpList_append_run _ _ 84 84 _ _ _ V1 (by rfl) (by rfl) K1.out ?_; clear _t tok1; go_frame) | (at_builtin; have _t := tok2; refine wpList_append_run _ _ 84 84 _ _ _ V2 (by rfl) (by rfl) K2.out ?_; clear _t tok2; go_frame) | (at_builtin; have _t := tok3; refine wpList_append_run _ _ 84 84 _ _ _ V3 (by rfl) (by rfl) K3.out ?_; clear _t tok3; go_frame))
    go_end0
    exact ⟨rfl, KR.out⟩
  | some g =>
    clear hnil
    by_cases hlt : (k : Int) < (m : Int)
    · skip
      go_enter Try.func80, Try.ntmps80
      go_upto_region 1 with fail
      rw [← HW1.out, ← HQ.out]
      go_wp2_with fail
      refine Hf.out.mono ?_
      rintro e w1 ⟨rfl, hb⟩
      obtain ⟨h, hb1, o1, hs, hsm, hlen, hm, hN, hT, hkl⟩ := H.out
      have hb2 : Below w.heap.size w w1 := hb1.trans (hb.mono hb1.size)
      have h1 := h.below hb2
      have o2 := (hb.block _ (lt_of_block o1)).trans o1
      have hv := (h1.row.arg (fCells_one _)).behind k (by omega)
      rw [← hm, if_neg (by omega)] at hv
      obtain ⟨tb, tc, V1, b2, c2, V2, b3, c3, V3, k1, k2, k3, k4, k5, k6, k7, k8⟩ := put_world h1 k hkl f hlen m hm _ _ rfl hv 84
      have hs1 := hb2.size
      have d0 := h1.cell.1
      rw [← hm] at d0
      have e0 := (h1.below k7).cell.1
      rw [← hm] at e0
      have z0 := (h1.below k8).cell.1
      have z0f := (h1.below k8).free 0
      have o3 := (k6.block _ (lt_of_block o2)).trans o2
      have p0 : V1.cell? ⟨Q, 0, none⟩ = some (.string N) := by rw [cell_of_row _ _ _ _ _ _ o3, hN]; rfl
      have p1 : V1.cell? ⟨Q, 1, none⟩ = some (.string T) := by rw [cell_of_row _ _ _ _ _ _ o3, hT]; rfl
      have p2 : V1.cell? ⟨Q, 2, none⟩ = some (.int .i64 (f.synced : Int)) := by rw [cell_of_row _ _ _ _ _ _ o3]; rfl
      obtain ⟨ta, hta⟩ : ∃ ta : Option Addr, ta = tb.map fun b => ⟨b, 0, none⟩ := ⟨_, rfl⟩
      obtain ⟨a2, ha2⟩ : ∃ ta : Option Addr, ta = b2.map fun b => ⟨b, 0, none⟩ := ⟨_, rfl⟩
      obtain ⟨a3, ha3⟩ : ∃ ta : Option Addr, ta = b3.map fun b => ⟨b, 0, none⟩ := ⟨_, rfl⟩
      have hfin := h.replaceRow (hb2.trans (k8.mono hb2.size)) _ hs hsm b3 c3 (m + 1) (by rw [hm, List.length_append, List.length_cons, List.length_take, List.length_drop]; omega) k4 (fun b e => by have := k5 b e; omega)
      rw [← hta, ← hN, ← hT] at k2
      rw [← hta] at k1
      rw [← ha2] at k2 k3
      rw [← ha3] at k3 hfin
      have K1 := Lib.hid k1
      have K2 := Lib.hid k2
      have K3 := Lib.hid k3
      have KR := Lib.hid hfin
      clear h hb hb1 o1 hs hsm hlen hm hN hT hkl hb2 h1 o2 hv k1 k2 k3 k4 k5 k6 k7 k8 hs1 o3 hta ha2 ha3 hfin c1 hx1
      have tok1 : True := trivial
      have tok2 : True := trivial
      have tok3 : True := trivial
      go_wp2_with (first | (at_builtin; have _t := tok1; refine wpList_append_run _ _ 84 84 _ _ _ V1 (by rfl) (by rfl) K1.out ?_; clear _t tok1; go_frame) | (at_builtin; have _t := tok2; refine wpList_append_run _ _ 84 84 _ _ _ V2 (by rfl) (by rfl) K2.out ?_; clear _t tok2; go_frame) | (at_builtin; have _t := tok3; refine wpList_append_run _ _ 84 84 _ _ _ V3 (by rfl) (by rfl) K3.out ?_; clear _t tok3; go_frame))
      go_end0
      exact ⟨rfl, KR.out⟩
    · obtain rfl : k = m := by omega
      clear hlt
      by_cases hcp : cap = k
      · subst hcp
        skip
        go_enter Try.func80, Try.ntmps80
        go_upto_region 1 with fail
        rw [← HW1.out, ← HQ.out]
        go_wp2_with fail
        refine Hf.out.mono ?_
        rintro e w1 ⟨rfl, hb⟩
        obtain ⟨h, hb1, o1, hs, hsm, hlen, hm, hN, hT, hkl⟩ := H.out
        have hb2 : Below w.heap.size w w1 := hb1.trans (hb.mono hb1.size)
        have h1 := h.below hb2
        have o2 := (hb.block _ (lt_of_block o1)).trans o1
        have hv := (h1.row.arg (fCells_one _)).behind cap (by omega)
        rw [← hm, if_pos rfl] at hv
        obtain ⟨tb, tc, V1, b2, c2, V2, b3, c3, V3, k1, k2, k3, k4, k5, k6, k7, k8⟩ := put_world h1 cap hkl f hlen cap hm _ _ rfl hv 84
        have hs1 := hb2.size
        have d0 := h1.cell.1
        rw [← hm] at d0
        have e0 := (h1.below k7).cell.1
        rw [← hm] at e0
        have z0 := (h1.below k8).cell.1
        have z0f := (h1.below k8).free 0
        have o3 := (k6.block _ (lt_of_block o2)).trans o2
        have p0 : V1.cell? ⟨Q, 0, none⟩ = some (.string N) := by rw [cell_of_row _ _ _ _ _ _ o3, hN]; rfl
        have p1 : V1.cell? ⟨Q, 1, none⟩ = some (.string T) := by rw [cell_of_row _ _ _ _ _ _ o3, hT]; rfl
        have p2 : V1.cell? ⟨Q, 2, none⟩ = some (.int .i64 (f.synced : Int)) := by rw [cell_of_row _ _ _ _ _ _ o3]; rfl
        obtain ⟨ta, hta⟩ : ∃ ta : Option Addr, ta = tb.map fun b => ⟨b, 0, none⟩ := ⟨_, rfl⟩
        obtain ⟨a2, ha2⟩ : ∃ ta : Option Addr, ta = b2.map fun b => ⟨b, 0, none⟩ := ⟨_, rfl⟩
        obtain ⟨a3, ha3⟩ : ∃ ta : Option Addr, ta = b3.map fun b => ⟨b, 0, none⟩ := ⟨_, rfl⟩
        have hfin := h.replaceRow (hb2.trans (k8.mono hb2.size)) _ hs hsm b3 c3 (cap + 1) (by rw [hm, List.length_append, List.length_cons, List.length_take, List.length_drop]; omega) k4 (fun b e => by have := k5 b e; omega)
        rw [← hta, ← hN, ← hT] at k2
        rw [← hta] at k1
        rw [← ha2] at k2 k3
        rw [← ha3] at k3 hfin
        rw [Nat.sub_self] at k3
        have K1 := Lib.hid k1
        have K2 := Lib.hid k2
        have K3 := Lib.hid k3
        have KR := Lib.hid hfin
        clear h hb hb1 o1 hs hsm hlen hm hN hT hkl hb2 h1 o2 hv k1 k2 k3 k4 k5 k6 k7 k8 hs1 o3 hta ha2 ha3 hfin c1 hx1
        have tok1 : True := trivial
        have tok2 : True := trivial
        have tok3 : True := trivial
        go_wp2_with (first | (at_builtin; have _t := tok1; refine wpList_append_run _ _ 84 84 _ _ _ V1 (by rfl) (by rfl) K1.out ?_; clear _t tok1; go_frame) | (at_builtin; have _t := tok2; refine wpList_append_run _ _ 84 84 _ _ _ V2 (by rfl) (by rfl) K2.out ?_; clear _t tok2; go_frame) | (at_builtin; have _t := tok3; refine wpList_append_run _ _ 84 84 _ _ _ V3 (by rfl) (by rfl) K3.out ?_; clear _t tok3; go_frame))
        go_end0
        exact ⟨rfl, KR.out⟩
      · skip
        go_enter Try.func80, Try.ntmps80
        go_upto_region 1 with fail
        rw [← HW1.out, ← HQ.out]
        go_wp2_with fail
        refine Hf.out.mono ?_
        rintro e w1 ⟨rfl, hb⟩
        obtain ⟨h, hb1, o1, hs, hsm, hlen, hm, hN, hT, hkl⟩ := H.out
        have hb2 : Below w.heap.size w w1 := hb1.trans (hb.mono hb1.size)
        have h1 := h.below hb2
        have o2 := (hb.block _ (lt_of_block o1)).trans o1
        have hv := (h1.row.arg (fCells_one _)).behind k (by omega)
        rw [← hm, if_neg hcp] at hv
        obtain ⟨tb, tc, V1, b2, c2, V2, b3, c3, V3, k1, k2, k3, k4, k5, k6, k7, k8⟩ := put_world h1 k hkl f hlen k hm _ _ rfl hv 84
        have hs1 := hb2.size
        have d0 := h1.cell.1
        rw [← hm] at d0
        have e0 := (h1.below k7).cell.1
        rw [← hm] at e0
        have z0 := (h1.below k8).cell.1
        have z0f := (h1.below k8).free 0
        have o3 := (k6.block _ (lt_of_block o2)).trans o2
        have p0 : V1.cell? ⟨Q, 0, none⟩ = some (.string N) := by rw [cell_of_row _ _ _ _ _ _ o3, hN]; rfl
        have p1 : V1.cell? ⟨Q, 1, none⟩ = some (.string T) := by rw [cell_of_row _ _ _ _ _ _ o3, hT]; rfl
        have p2 : V1.cell? ⟨Q, 2, none⟩ = some (.int .i64 (f.synced : Int)) := by rw [cell_of_row _ _ _ _ _ _ o3]; rfl
        obtain ⟨ta, hta⟩ : ∃ ta : Option Addr, ta = tb.map fun b => ⟨b, 0, none⟩ := ⟨_, rfl⟩
        obtain ⟨a2, ha2⟩ : ∃ ta : Option Addr, ta = b2.map fun b => ⟨b, 0, none⟩ := ⟨_, rfl⟩
        obtain ⟨a3, ha3⟩ : ∃ ta : Option Addr, ta = b3.map fun b => ⟨b, 0, none⟩ := ⟨_, rfl⟩
        have hfin := h.replaceRow (hb2.trans (k8.mono hb2.size)) _ hs hsm b3 c3 (k + 1) (by rw [hm, List.length_append, List.length_cons, List.length_take, List.length_drop]; omega) k4 (fun b e => by have := k5 b e; omega)
        rw [← hta, ← hN, ← hT] at k2
        rw [← hta] at k1
        rw [← ha2] at k2 k3
        rw [← ha3] at k3 hfin
        rw [Nat.sub_self] at k3
        have K1 := Lib.hid k1
        have K2 := Lib.hid k2
        have K3 := Lib.hid k3
        have KR := Lib.hid hfin
        clear h hb hb1 o1 hs hsm hlen hm hN hT hkl hb2 h1 o2 hv k1 k2 k3 k4 k5 k6 k7 k8 hs1 o3 hta ha2 ha3 hfin c1 hx1
        have tok1 : True := trivial
        have tok2 : True := trivial
        have tok3 : True := trivial
        go_wp2_with (first | (at_builtin; have _t := tok1; refine wpList_append_run _ _ 84 84 _ _ _ V1 (by rfl) (by rfl) K1.out ?_; clear _t tok1; go_frame) | (at_builtin; have _t := tok2; refine wpList_append_run _ _ 84 84 _ _ _ V2 (by rfl) (by rfl) K2.out ?_; clear _t tok2; go_frame) | (at_builtin; have _t := tok3; refine wpList_append_run _ _ 84 84 _ _ _ V3 (by rfl) (by rfl) K3.out ?_; clear _t tok3; go_frame))
        go_end0
        exact ⟨rfl, KR.out⟩
set_option maxRecDepth 100000 in
set_option maxHeartbeats 1600000 in
theorem rput_old (h : RefD w x rb cap st) (f : Fi) (k : Nat) (hp : Place st.files f.name k) {g : Fi} (hg : fget st.files f.name = some g) (hs : Srt (st.files.set k f)) (hsm : St.Small { st with files := st.files.set k f }) (hlen : st.files.length < 1000000) :
    Calls Try.prog 80 #[.pointer (some ⟨x, 0, none⟩), .agg #[.string f.name, .string (txt f.bytes), .int .i64 (f.synced : Int)]] w fun e w' => e = .returned (.tuple #[]) ∧ RDT w x (rfoot x rb) { st with files := st.files.set k f } w' := by
  obtain ⟨W1, hW1⟩ : ∃ W1, W1 = w.alloc (.cells #[.string f.name, .string (txt f.bytes), .int .i64 (f.synced : Int)] 91 (0, 0)) := ⟨_, rfl⟩
  have hb1 : Below w.heap.size w W1 := by rw [hW1]; exact (Below.refl _ _).alloc (Nat.le_refl _) _
  have o1 : W1.heap[w.heap.size]? = some (.cells #[.string f.name, .string (txt f.bytes), .int .i64 (f.synced : Int)] 91 (0, 0)) := by rw [hW1]; exact heap_alloc_new _ _
  have hfind := rfind_c (h.below hb1) f.name k hp hlen
  rw [hg] at hfind
  have Hf : Hid (Calls Try.prog 79 #[.pointer (some ⟨x, 0, none⟩), .string f.name] W1 fun e w' => e = .returned (.tuple #[.int .i64 (k : Int), .bool true]) ∧ Below W1.heap.size W1 w') := Lib.hid hfind
  obtain ⟨hkl, hq1, hq2⟩ := hp.yes h.srt hg
  clear hq1 hq2
  obtain ⟨N, hN⟩ : ∃ N, N = f.name := ⟨_, rfl⟩
  obtain ⟨T, hT⟩ : ∃ T, T = txt f.bytes := ⟨_, rfl⟩
  obtain ⟨Q, hQ⟩ : ∃ Q, Q = w.heap.size := ⟨_, rfl⟩
  obtain ⟨m, hm⟩ : ∃ m, m = st.files.length := ⟨_, rfl⟩
  have hkm : (k : Int) < (m : Int) := by omega
  have hk0 : (0 : Int) ≤ (k : Int) := by omega
  have hmI : (m : Int) ≤ 1000000 := by omega
  rw [← hN] at Hf hW1 ⊢
  rw [← hT] at hW1 ⊢
  rw [← hQ] at o1
  have c1 : W1.cell? ⟨Q, 0, none⟩ = some (.string N) := by rw [cell_of_row _ _ _ _ _ _ o1, hN]; rfl
  have H := Lib.hid (And.intro h (And.intro hb1 (And.intro o1 (And.intro hs (And.intro hsm (And.intro hlen (And.intro hm (And.intro hN (And.intro hT hkl)))))))))
  have HW1 := Lib.hid hW1
  have HQ := Lib.hid hQ
  obtain ⟨b, rfl⟩ : ∃ b, rb = some b := by obtain ⟨b, hb, _⟩ := h.file k hkl; exact ⟨b, hb⟩
  clear h hp hg hs hsm hlen hb1 o1 hfind hkl hN hT hQ hm hW1
  go_enter Try.func80, Try.ntmps80
  go_upto_region 1 with fail
  rw [← HW1.out, ← HQ.out]
  go_wp2_with fail
  refine Hf.out.mono ?_
  rintro e w1 ⟨rfl, hb⟩
  obtain ⟨h, hb1, o1, hs, hsm, hlen, hm, hN, hT, hkl⟩ := H.out
  have hb2 : Below w.heap.size w w1 := hb1.trans (hb.mono hb1.size)
  have h1 := h.below hb2
  have o2 := (hb.block _ (lt_of_block o1)).trans o1
  have d0 := h1.cell.1
  rw [← hm] at d0
  have p0 : w1.cell? ⟨Q, 0, none⟩ = some (.string N) := by rw [cell_of_row _ _ _ _ _ _ o2, hN]; rfl
  have p1 : w1.cell? ⟨Q, 1, none⟩ = some (.string T) := by rw [cell_of_row _ _ _ _ _ _ o2, hT]; rfl
  have p2 : w1.cell? ⟨Q, 2, none⟩ = some (.int .i64 (f.synced : Int)) := by rw [cell_of_row _ _ _ _ _ _ o2]; rfl
  obtain ⟨b', hb', _, q0, q1, q2, qf⟩ := h1.file k hkl
  cases hb'
  have f0 := qf (k * 3)
  have f1 := qf (k * 3 + 1)
  have f2 := qf (k * 3 + 2)
  have hfin : RDT w x (rfoot x (some b)) { st with files := st.files.set k f } (w1.setCells b (k * 3) (fiCells f)).drew := by
    obtain ⟨F', ⟨rb', cap', h3, h4⟩, h5⟩ := h1.storeFile k hkl f hs hsm
    exact ⟨F', ⟨rb', cap', h3.kept fun _ _ => rfl, h4⟩, (Eff.below hb2).trans ⟨h5.os, h5.tape, h5.output, h5.size, h5.keep, h5.sub⟩⟩
  rw [show w1.setCells b (k * 3) (fiCells f) = ((w1.setCell ⟨b, k * 3, none⟩ (.string f.name)).setCell ⟨b, k * 3 + 1, none⟩ (.string (txt f.bytes))).setCell ⟨b, k * 3 + 2, none⟩ (.int .i64 (f.synced : Int)) from rfl, ← hN, ← hT] at hfin
  have HF := Lib.hid hfin
  clear h hb hb1 o1 hs hsm hlen hm hN hT hb2 h1 o2 c1 qf hfin
  go_upto_region 3 with fail
  go_region_law (fail)
  all_goals go_wp2_with fail
  all_goals refine bodyPost_ret (v := .tuple #[]) (by simp [results, Try.results80, go_sem]) rfl ⟨rfl, ?_⟩
  all_goals exact HF.out
end
end Go.Proofs.Ytmjeanbbhacnaaa
namespace Go.Proofs.Ytmjeanbbhacnaaa
open Go.RowKit
attribute [local go_sem ↓] Go.wp_at_zero Go.wp_at_succ
section
variable {w W : World} {x : Nat} {rb : Option Nat} {cap : Nat} {st : St}
set_option maxRecDepth 100000 in
set_option maxHeartbeats 3200000 in
theorem rdrop_c (h : RefD w x rb cap st) (k : Nat) (hk : k < st.files.length) (hs : Srt (st.files.take k ++ st.files.drop (k + 1))) (hsm : St.Small { st with files := st.files.take k ++ st.files.drop (k + 1) }) (hlen : st.files.length < 1000000) :
    Calls Try.prog 110 #[.pointer (some ⟨x, 0, none⟩), .int .i64 (k : Int)] w fun e w' => e = .returned (.tuple #[]) ∧ RDT w x (rfoot x rb) { st with files := st.files.take k ++ st.files.drop (k + 1) } w' := by
  obtain ⟨g, rfl⟩ : ∃ b, rb = some b := by obtain ⟨b, hb, _⟩ := h.file k hk; exact ⟨b, hb⟩
  obtain ⟨m, hm⟩ : ∃ m, m = st.files.length := ⟨_, rfl⟩
  have hkm : (k : Int) < (m : Int) := by omega
  have hk0 : (0 : Int) ≤ (k : Int) := by omega
  have hmI : (m : Int) ≤ 1000000 := by omega
  have hmc : (m : Int) ≤ (cap : Int) := by have := h.row.2.1; omega
  have d0 := h.cell.1
  rw [← hm] at d0
  by_cases hlt : (k : Int) + 1 < (m : Int)
  · have hv := (h.row.arg (fCells_one _)).behind (k + 1) (by omega)
    rw [← hm, if_neg (by omega)] at hv
    obtain ⟨tb, tc, V1, b3, c3, V3, k1, k2, k3, k4, k5, k6⟩ := drop_world h k hk hlen m hm _ _ rfl hv 84
    have e0 := (h.below k5).cell.1
    rw [← hm] at e0
    have z0 := (h.below k6).cell.1
    have z0f := (h.below k6).free 0
    obtain ⟨ta, hta⟩ : ∃ ta : Option Addr, ta = tb.map fun b => ⟨b, 0, none⟩ := ⟨_, rfl⟩
    obtain ⟨a3, ha3⟩ : ∃ ta : Option Addr, ta = b3.map fun b => ⟨b, 0, none⟩ := ⟨_, rfl⟩
    have hfin := h.replaceRow k6 _ hs hsm b3 c3 (k + (m - (k + 1))) (by rw [hm, List.length_append, List.length_take, List.length_drop]; omega) k3 k4
    rw [← hta] at k1 k2
    rw [← ha3] at k2 hfin
    have K1 := Lib.hid k1
    have K2 := Lib.hid k2
    have KR := Lib.hid hfin
    clear h hs hsm hlen hm hv k1 k2 k3 k4 k5 k6 hta ha3 hfin hk
    have tok1 : True := trivial
    have tok2 : True := trivial
    go_enter Try.func110, Try.ntmps110
    go_wp2_with (first | (at_builtin; have _t := tok1; refine wpList_append_run _ _ 84 84 _ _ _ V1 (by rfl) (by rfl) K1.out ?_; clear _t tok1; go_frame) | (at_builtin; have _t := tok2; refine wpList_append_run _ _ 84 84 _ _ _ V3 (by rfl) (by rfl) K2.out ?_; clear _t tok2; go_frame))
    go_end0
    exact ⟨rfl, KR.out⟩
  · obtain rfl : m = k + 1 := by omega
    clear hlt
    by_cases hcp : cap = k + 1
    · subst hcp
      have hv := (h.row.arg (fCells_one _)).behind (k + 1) (by omega)
      rw [← hm, if_pos rfl] at hv
      obtain ⟨tb, tc, V1, b3, c3, V3, k1, k2, k3, k4, k5, k6⟩ := drop_world h k hk hlen (k + 1) hm _ _ rfl hv 84
      have e0 := (h.below k5).cell.1
      rw [← hm] at e0
      have z0 := (h.below k6).cell.1
      have z0f := (h.below k6).free 0
      obtain ⟨ta, hta⟩ : ∃ ta : Option Addr, ta = tb.map fun b => ⟨b, 0, none⟩ := ⟨_, rfl⟩
      obtain ⟨a3, ha3⟩ : ∃ ta : Option Addr, ta = b3.map fun b => ⟨b, 0, none⟩ := ⟨_, rfl⟩
      have hfin := h.replaceRow k6 _ hs hsm b3 c3 (k + ((k + 1) - (k + 1))) (by rw [hm, List.length_append, List.length_take, List.length_drop]; omega) k3 k4
      rw [← hta] at k1 k2
      rw [← ha3] at k2 hfin
      rw [Nat.sub_self, Nat.add_zero] at k2 hfin
      have K1 := Lib.hid k1
      have K2 := Lib.hid k2
      have KR := Lib.hid hfin
      clear h hs hsm hlen hm hv k1 k2 k3 k4 k5 k6 hta ha3 hfin hk
      have tok1 : True := trivial
      have tok2 : True := trivial
      go_enter Try.func110, Try.ntmps110
      go_wp2_with (first | (at_builtin; have _t := tok1; refine wpList_append_run _ _ 84 84 _ _ _ V1 (by rfl) (by rfl) K1.out ?_; clear _t tok1; go_frame) | (at_builtin; have _t := tok2; refine wpList_append_run _ _ 84 84 _ _ _ V3 (by rfl) (by rfl) K2.out ?_; clear _t tok2; go_frame))
      go_end0
      exact ⟨rfl, KR.out⟩
    · have hv := (h.row.arg (fCells_one _)).behind (k + 1) (by omega)
      rw [← hm, if_neg hcp] at hv
      obtain ⟨tb, tc, V1, b3, c3, V3, k1, k2, k3, k4, k5, k6⟩ := drop_world h k hk hlen (k + 1) hm _ _ rfl hv 84
      have e0 := (h.below k5).cell.1
      rw [← hm] at e0
      have z0 := (h.below k6).cell.1
      have z0f := (h.below k6).free 0
      obtain ⟨ta, hta⟩ : ∃ ta : Option Addr, ta = tb.map fun b => ⟨b, 0, none⟩ := ⟨_, rfl⟩
      obtain ⟨a3, ha3⟩ : ∃ ta : Option Addr, ta = b3.map fun b => ⟨b, 0, none⟩ := ⟨_, rfl⟩
      have hfin := h.replaceRow k6 _ hs hsm b3 c3 (k + ((k + 1) - (k + 1))) (by rw [hm, List.length_append, List.length_take, List.length_drop]; omega) k3 k4
      rw [← hta] at k1 k2
      rw [← ha3] at k2 hfin
      rw [Nat.sub_self, Nat.add_zero] at k2 hfin
      have K1 := Lib.hid k1
      have K2 := Lib.hid k2
      have KR := Lib.hid hfin
      clear h hs hsm hlen hm hv k1 k2 k3 k4 k5 k6 hta ha3 hfin hk
      have tok1 : True := trivial
      have tok2 : True := trivial
      go_enter Try.func110, Try.ntmps110
      go_wp2_with (first | (at_builtin; have _t := tok1; refine wpList_append_run _ _ 84 84 _ _ _ V1 (by rfl) (by rfl) K1.out ?_; clear _t tok1; go_frame) | (at_builtin; have _t := tok2; refine wpList_append_run _ _ 84 84 _ _ _ V3 (by rfl) (by rfl) K2.out ?_; clear _t tok2; go_frame))
      go_end0
      exact ⟨rfl, KR.out⟩
end
end Go.Proofs.Ytmjeanbbhacnaaa

/- Words, logs and lists of logs that came in as arguments. No condition. -/
import Derived.Test.YtgjaennilkhejaaWArg
import Derived.Test.YtgjaennilkhejaaWSame
import Derived.Deep.Slices
import Derived.Deep.Fields
import Derived.ChangeSame
import Derived.SizedLaws
namespace Go.Proofs.Ytgjaennilkhejaa
open Go.RowKit Go.ChangeShapes Go.WideShapes Go.Joins Go.Deep
section
variable {H : Type} {enc : TypeId × Value → H} {P : Program} {w : World} {base : Nat} {spare : Nat → Bool} {held : Bool}
theorem open_slice_fields {t e : TypeId} {fs : Array Field} {fuel : Nat} {cs : List Value} {x : DataW H × List MemPlace} (ht : P.underlying t = some (.slice e)) (he : P.underlying e = some (.struct fs))
    (hone : oneCellFields P fs = true) (hC : P.cellsOf e = fs.size) (h : DataW.trod enc P w base spare held fuel t cs = some x) :
    (cs = [.slice none 0 0] ∧ x = (.nil, [])) ∨
    ∃ (a : Addr) (len cap m : Nat) (D : Nat → DataW H) (Pl : Nat → List MemPlace), cs = [.slice (some a) len cap] ∧ base ≤ a.block ∧ len ≤ cap ∧ cap ≤ maxLen ∧ m = (if spare a.block then cap else len) ∧
      x = (.slice ((List.range len).map D) ((List.range (m - len)).map fun j => D (len + j)), MemPlace.row a (m * fs.size) ++ (List.range m).flatMap Pl) ∧
      ∀ i, i < m → ∃ (ys : List (DataW H × List MemPlace)) (n : Nat), D i = .agg (ys.map (·.1)) ∧ Pl i = ys.flatMap (·.2) ∧ ys.length = fs.size ∧
        ∀ (j : Nat) (f : Field), fs[j]? = some f → ∃ (v : Value) (y : DataW H × List MemPlace), w.cell? (a.add (i * fs.size + j)) = some v ∧ ys[j]? = some y ∧ DataW.trod enc P w base spare held n f.type [v] = some y := by
  rcases open_slice ht h with h0 | ⟨a, len, cap, m, n, D, Pl, hcs, hb, hl, hm, hmm, hx, hi⟩
  · exact .inl h0
  · refine .inr ⟨a, len, cap, m, D, Pl, hcs, hb, hl, hm, hmm, by rw [hC] at hx; exact hx, fun i him => ?_⟩
    obtain ⟨cs', hc, ht'⟩ := hi i him
    rw [hC] at hc
    obtain ⟨ys, n', hn', hy, hlen, hyl, hf⟩ := DataW.trod_struct he ht'
    obtain ⟨_, hcl, hat⟩ := World.cells?_some hc
    simp only [Prod.mk.injEq] at hy
    refine ⟨ys, n', hy.1, hy.2, hyl, fun j f hj => ?_⟩
    obtain ⟨ho, hk⟩ := hone_of hone j f hj
    have hjl : j < fs.size := (Array.getElem?_eq_some_iff.1 hj).1
    have hcell := hat j hjl
    have hv : cs'[j]? = some (cs'[j]'(by omega)) := List.getElem?_eq_getElem (by omega)
    have h1 := hf j f hj
    rw [ho, hk] at h1
    have hone' : (cs'.drop j).take 1 = [cs'[j]'(by omega)] := by
      rw [List.drop_eq_getElem_cons (by omega)]
      rfl
    rw [hone'] at h1
    have hys : ys[j]? = some (ys[j]'(by omega)) := List.getElem?_eq_getElem (by omega)
    refine ⟨_, _, ?_, hys, h1.trans hys⟩
    rw [← Go.Deep.add_add, hcell, hv]
end
theorem sized_at {H : Type} {P : Program} {ts : List TypeId} {ds : List (DataW H)} (h : (DataW.weightsEach P ts ds).all (· ≤ reachBytes) = true) {j : Nat} {t : TypeId} {d : DataW H} (ht : ts[j]? = some t) (hd : ds[j]? = some d) :
    ∀ y ∈ DataW.weights P t d, y ≤ reachBytes := fun y hy => by
  have := List.all_eq_true.1 h _ (DataW.weights_mem_each ht hd y hy)
  simpa using this
theorem list_pick {α : Type} (Q : Nat → α → Prop) : ∀ n, (∀ i, i < n → ∃ x, Q i x) → ∃ l : List α, l.length = n ∧ ∀ i (h : i < l.length), Q i l[i]
  | 0, _ => ⟨[], rfl, fun i h => absurd h (Nat.not_lt_zero _)⟩
  | n + 1, h => by
    obtain ⟨l, h1, h2⟩ := list_pick Q n fun i hi => h i (by omega)
    obtain ⟨x, hx⟩ := h n (by omega)
    refine ⟨l ++ [x], by simp [h1], fun i hi => ?_⟩
    by_cases e : i < l.length
    · rw [List.getElem_append_left e]; exact h2 i e
    · have e2 : i = n := by simp at hi; omega
      subst e2
      rw [List.getElem_append_right (by omega)]
      simpa [h1] using hx
section
variable {H : Type} {enc : TypeId × Value → H} {w : World} {base : Nat} {spare : Nat → Bool} {held : Bool}
/-- A slice of words. -/
theorem open_words {fuel : Nat} {cs : List Value} {x : DataW H × List MemPlace} (h : DataW.trod enc Try.prog w base spare held fuel 32 cs = some x) (hw : ∀ y ∈ DataW.weights Try.prog 32 x.1, y ≤ reachBytes) :
    ∃ (a : Option Addr) (n cap : Nat) (ts : List W4), cs = [.slice a n cap] ∧ ts.length = n ∧ VArg 4 w a cap n (W4s ts) ∧ n * 32 ≤ reachBytes := by
  rcases open_slice_fields Try.underlying32 Try.underlying24 (by kernel_rfl) (by kernel_rfl) h with ⟨hcs, _⟩ | ⟨a, len, cap, m, D, Pl, hcs, hb, hl, hm, hmm, hx, hi⟩
  · exact ⟨none, 0, 0, [], hcs, rfl, ⟨rfl, Nat.le_refl _, fun _ => rfl, fun u hu => by simp [W4s] at hu, fun i hi => absurd hi (by simp [W4s])⟩, by decide⟩
  · have hlm : len ≤ m := by rw [hmm]; split <;> omega
    obtain ⟨ts, h1, h2⟩ := list_pick (fun i (k : W4) => w.cell? (a.add (i * 4)) = some (.int .u64 k.a) ∧ w.cell? (a.add (i * 4 + 1)) = some (.int .u64 k.b) ∧ w.cell? (a.add (i * 4 + 2)) = some (.int .u64 k.c) ∧ w.cell? (a.add (i * 4 + 3)) = some (.int .u64 k.d)) len (fun i hil => by
      obtain ⟨ys, n, _, _, _, hf⟩ := hi i (by omega)
      obtain ⟨v0, y0, c0, _, t0⟩ := hf 0 _ rfl
      obtain ⟨v1, y1, c1, _, t1⟩ := hf 1 _ rfl
      obtain ⟨v2, y2, c2, _, t2⟩ := hf 2 _ rfl
      obtain ⟨v3, y3, c3, _, t3⟩ := hf 3 _ rfl
      obtain ⟨k0, e0, _, _⟩ := DataW.trod_int Try.underlying22 t0
      obtain ⟨k1, e1, _, _⟩ := DataW.trod_int Try.underlying22 t1
      obtain ⟨k2, e2, _, _⟩ := DataW.trod_int Try.underlying22 t2
      obtain ⟨k3, e3, _, _⟩ := DataW.trod_int Try.underlying22 t3
      cases e0; cases e1; cases e2; cases e3
      exact ⟨⟨k0, k1, k2, k3⟩, c0, c1, c2, c3⟩)
    refine ⟨some a, len, cap, ts, hcs, h1, ⟨by rw [W4s_length, h1], hl, (fun e => by cases e), W4s_one ts, fun i hil => ?_⟩, ?_⟩
    · rw [W4s_length] at hil
      have hk : i / 4 < ts.length := by omega
      obtain ⟨c0, c1, c2, c3⟩ := h2 (i / 4) hk
      obtain ⟨g0, g1, g2, g3⟩ := W4s_get ts (i / 4) hk
      have hi4 : i = i / 4 * 4 ∨ i = i / 4 * 4 + 1 ∨ i = i / 4 * 4 + 2 ∨ i = i / 4 * 4 + 3 := by omega
      have hcell : w.cell? (a.add i) = (W4s ts)[i]? := by
        rcases hi4 with e | e | e | e
        · rw [e, c0, g0]
        · rw [e, c1, g1]
        · rw [e, c2, g2]
        · rw [e, c3, g3]
      have hil' : i < (W4s ts).length := by rw [W4s_length]; exact hil
      rw [List.getElem?_eq_getElem hil'] at hcell
      have := World.block_lt_of_cell? w (a.add i) hcell
      rw [add_block] at this
      exact ⟨a, rfl, this, hcell⟩
    · have hbyt : Try.prog.bytesOf 24 = 32 := by kernel_rfl
      have := hw ((((List.range len).map D).length + ((List.range (m - len)).map fun j => D (len + j)).length) * Try.prog.bytesOf 24) (by rw [hx]; simp [DataW.weights, Try.underlying32])
      rw [hbyt] at this
      simp only [List.length_map, List.length_range] at this
      omega
/-- What is read of a log: its cells' values. -/
def LogVals (w : World) (v0 v1 v2 : Value) (l : Lg) : Prop := v0 = .string l.addr ∧ (∃ a cap, v1 = .slice a l.topics.length cap ∧ VArg 4 w a cap l.topics.length (W4s l.topics)) ∧ v2 = .string l.data ∧ l.topics.length * 32 ≤ reachBytes
theorem open_logvals {n : Nat} {v0 v1 v2 : Value} {y0 y1 y2 : DataW H × List MemPlace} (h0 : DataW.trod enc Try.prog w base spare held n 9 [v0] = some y0) (h1 : DataW.trod enc Try.prog w base spare held n 32 [v1] = some y1)
    (h2 : DataW.trod enc Try.prog w base spare held n 9 [v2] = some y2) (hw : ∀ y ∈ DataW.weights Try.prog 32 y1.1, y ≤ reachBytes) : ∃ l, LogVals w v0 v1 v2 l := by
  obtain ⟨s0, e0, _, _⟩ := DataW.trod_string Try.underlying9 h0
  obtain ⟨s2, e2, _, _⟩ := DataW.trod_string Try.underlying9 h2
  obtain ⟨a, k, cap, ts, e1, hts, hv, hb⟩ := open_words h1 hw
  cases e0; cases e1; cases e2
  subst hts
  exact ⟨⟨s0, ts, s2⟩, rfl, ⟨a, cap, rfl, hv⟩, rfl, hb⟩
/-- The value is this log. -/
def LogArg (w : World) (v : Value) (l : Lg) : Prop := ∃ v1, v = .agg #[.string l.addr, v1, .string l.data] ∧ ∃ a cap, v1 = .slice a l.topics.length cap ∧ VArg 4 w a cap l.topics.length (W4s l.topics) ∧ l.topics.length * 32 ≤ reachBytes
theorem open_logarg {b0 : Nat} {r : Reach} {v : Value} {d : DataW H} {p : List MemPlace} (hv : Value.okWide Try.prog w r b0 34 v) (h : DataW.Trod enc Try.prog w base spare held 34 v d p) (hw : ∀ y ∈ DataW.weights Try.prog 34 d, y ≤ reachBytes) : ∃ l, LogArg w v l := by
  obtain ⟨v0, v1, v2, y0, y1, y2, n, rfl, rfl, rfl, h0, h1, h2⟩ := open_agg3 Try.underlying34 (by kernel_rfl) (by kernel_rfl) hv h
  obtain ⟨l, rfl, ⟨a, cap, e, hva⟩, rfl, hb⟩ := open_logvals h0 h1 h2 (fun y hy => hw y (by simp only [DataW.weights, Try.underlying34]; simp [DataW.weightsEach, hy]))
  exact ⟨l, v1, rfl, a, cap, e, hva, hb⟩
/-- The value is a list of these logs. -/
def LogsArg (w : World) (v : Value) (xs : List Lg) : Prop :=
  ∃ (a : Option Addr) (len cap : Nat), v = .slice a len cap ∧ xs.length = len ∧ len ≤ cap ∧ (cap : Int) ≤ 9223372036854775807 ∧ (a = none → cap = 0) ∧ ∀ i (h : i < xs.length), ∃ b o v1, a = some ⟨b, o, none⟩ ∧ b < w.heap.size ∧
    w.cell? ⟨b, o + i * 3, none⟩ = some (.string xs[i].addr) ∧ w.cell? ⟨b, o + i * 3 + 1, none⟩ = some v1 ∧ w.cell? ⟨b, o + i * 3 + 2, none⟩ = some (.string xs[i].data) ∧
    ∃ ta tc, v1 = .slice ta xs[i].topics.length tc ∧ VArg 4 w ta tc xs[i].topics.length (W4s xs[i].topics) ∧ xs[i].topics.length * 32 ≤ reachBytes
theorem weightsAll_mem {P : Program} {e : TypeId} : ∀ {l : List (DataW H)} {d : DataW H} {y : Nat}, d ∈ l → y ∈ DataW.weights P e d → y ∈ DataW.weightsAll P e l
  | x :: r, d, y, hd, hy => by
    unfold DataW.weightsAll
    rcases List.mem_cons.1 hd with rfl | hd
    · exact List.mem_append_left _ hy
    · exact List.mem_append_right _ (weightsAll_mem hd hy)
theorem spot_none {a : Addr} {v : Value} (h : w.cell? a = some v) : a.spot = none := by
  unfold World.cell? at h
  cases hs : a.spot with
  | none => rfl
  | some x =>
    rw [hs] at h
    simp only [Option.isSome_some, if_true] at h
    split at h <;> cases h
theorem add_plain (b o k : Nat) : (⟨b, o, none⟩ : Addr).add k = ⟨b, o + k, none⟩ := by unfold Addr.add; split <;> simp_all
theorem open_logsarg {b0 : Nat} {r : Reach} {v : Value} {d : DataW H} {p : List MemPlace} (hv : Value.okWide Try.prog w r b0 31 v) (h : DataW.Trod enc Try.prog w base spare held 31 v d p) (hw : ∀ y ∈ DataW.weights Try.prog 31 d, y ≤ reachBytes) : ∃ xs, LogsArg w v xs := by
  obtain ⟨a0, len0, cap0, rfl⟩ := okWide_slice Try.underlying31 hv
  obtain ⟨fuel, hf⟩ := h
  rcases open_slice_fields Try.underlying31 Try.underlying34 (by kernel_rfl) (by kernel_rfl) hf with ⟨hcs, _⟩ | ⟨a, len, cap, m, D, Pl, hcs, hb, hl, hm, hmm, hx, hi⟩
  · have e : (Value.slice a0 len0 cap0).cells.toList = [.slice a0 len0 cap0] := rfl
    have e2 := e.symm.trans hcs
    cases e2
    exact ⟨[], none, 0, 0, rfl, rfl, Nat.le_refl _, by omega, fun _ => rfl, fun i hi => absurd hi (Nat.not_lt_zero _)⟩
  · have e : (Value.slice a0 len0 cap0).cells.toList = [.slice a0 len0 cap0] := rfl
    have e2 := e.symm.trans hcs
    cases e2
    have hlm : len0 ≤ m := by rw [hmm]; split <;> omega
    obtain ⟨xs, h1, h2⟩ := list_pick (fun i (l : Lg) => ∃ v0 v1 v2, w.cell? (a.add (i * 3)) = some v0 ∧ w.cell? (a.add (i * 3 + 1)) = some v1 ∧ w.cell? (a.add (i * 3 + 2)) = some v2 ∧ LogVals w v0 v1 v2 l) len0 (fun i hil => by
      obtain ⟨ys, n, hD, _, hyl, hf⟩ := hi i (by omega)
      obtain ⟨v0, y0, c0, _, t0⟩ := hf 0 _ rfl
      obtain ⟨v1, y1, c1, q1, t1⟩ := hf 1 _ rfl
      obtain ⟨v2, y2, c2, _, t2⟩ := hf 2 _ rfl
      have hyl' : ys.length = 3 := hyl
      obtain ⟨l, hl⟩ := open_logvals t0 t1 t2 (fun y hy => hw y (by
        rw [show d = _ from congrArg Prod.fst hx]
        simp only [DataW.weights, Try.underlying31]
        refine List.mem_cons_of_mem _ (List.mem_append_left _ (weightsAll_mem (d := D i) (List.mem_map.2 ⟨i, List.mem_range.2 hil, rfl⟩) ?_))
        rw [hD]
        match ys, hyl', q1 with
        | [z0, z1, z2], _, q1 =>
          simp only [List.getElem?_cons_succ, List.getElem?_cons_zero, Option.some.injEq] at q1
          subst q1
          simp only [List.map_cons, List.map_nil, DataW.weights, Try.underlying34]
          simp [DataW.weightsEach, hy]))
      exact ⟨l, v0, v1, v2, c0, c1, c2, hl⟩)
    refine ⟨xs, some a, len0, cap0, rfl, h1, hl, by unfold maxLen at hm; omega, fun e => (by cases e), fun i hil => ?_⟩
    have h0 : 0 < xs.length := by omega
    obtain ⟨u0, _, _, k0, _⟩ := h2 0 h0
    obtain ⟨bb, o, sp⟩ := a
    have hsp : sp = none := by
      have := spot_none k0
      rw [show (⟨bb, o, sp⟩ : Addr).add (0 * 3) = ⟨bb, o, sp⟩ from rfl] at this
      exact this
    subst hsp
    obtain ⟨v0, v1, v2, c0, c1, c2, rfl, ⟨ta, tc, rfl, hva⟩, rfl, hby⟩ := h2 i hil
    rw [add_plain] at c0 c1 c2
    exact ⟨bb, o, _, rfl, World.block_lt_of_cell? w ⟨bb, o + i * 3, none⟩ c0, c0, by rw [Nat.add_assoc]; exact c1, by rw [Nat.add_assoc]; exact c2, ta, tc, rfl, hva, hby⟩
end
end Go.Proofs.Ytgjaennilkhejaa

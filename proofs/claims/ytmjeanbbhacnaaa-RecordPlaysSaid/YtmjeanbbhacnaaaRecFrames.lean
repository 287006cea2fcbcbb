/- The walk of Frames. The bound: the bytes are at most 2^40. -/
import Derived.Test.YtmjeanbbhacnaaaRecFrame
import Derived.Test.YtmjeanbbhacnaaaStrings
namespace Go.Proofs.Ytmjeanbbhacnaaa
open Go.RowKit
attribute [local go_sem ↓] Go.wp_at_zero Go.wp_at_succ
/-- The texts of the frames that bytes begin with, at most so many. -/
def framesF : Nat → List UInt8 → List (List UInt8)
  | 0, _ => []
  | f + 1, l => match oneL l with
    | none => []
    | some t => t :: framesF f (l.drop (t.length + 8))
def framesL (l : List UInt8) : List (List UInt8) := framesF (l.length + 1) l
def fsize (ts : List (List UInt8)) : Nat := (ts.map fun t => t.length + 8).sum
theorem fsize_append (a b : List (List UInt8)) : fsize (a ++ b) = fsize a + fsize b := by simp [fsize]
theorem oneL_length {l t : List UInt8} (h : oneL l = some t) : t.length + 8 ≤ l.length ∧ t.length ≤ 65536 := by
  unfold oneL at h
  by_cases h1 : l.length < 8
  · rw [if_pos h1] at h; cases h
  · rw [if_neg h1] at h
    by_cases h2 : 65536 < (num4 l).toNat ∨ l.length - 8 < (num4 l).toNat
    · rw [if_pos h2] at h; cases h
    · rw [if_neg h2] at h
      split at h
      · simp only [Option.some.injEq] at h
        rw [← h, List.length_take, List.length_drop]
        omega
      · cases h
/-- ts have been read, up to p. -/
inductive Fr (l : List UInt8) : List (List UInt8) → Nat → Prop
  | nil : Fr l [] 0
  | snoc {ts : List (List UInt8)} {p : Nat} {t : List UInt8} : Fr l ts p → oneL (l.drop p) = some t → Fr l (ts ++ [t]) (p + (t.length + 8))
theorem Fr.size {l : List UInt8} {ts : List (List UInt8)} {p : Nat} (h : Fr l ts p) : p = fsize ts ∧ p ≤ l.length ∧ 8 * ts.length ≤ p := by
  induction h with
  | nil => exact ⟨rfl, Nat.zero_le _, Nat.le_refl _⟩
  | snoc h1 h2 ih =>
    have := (oneL_length h2).1
    rw [List.length_drop] at this
    refine ⟨by rw [fsize_append, ← ih.1]; simp [fsize], by omega, by rw [List.length_append]; simp only [List.length_cons, List.length_nil]; omega⟩
theorem Fr.frames {l : List UInt8} {ts : List (List UInt8)} {p : Nat} (h : Fr l ts p) : ∀ f, framesF (f + ts.length) l = ts ++ framesF f (l.drop p) := by
  induction h with
  | nil => intro f; simp
  | @snoc ts p t h1 h2 ih =>
    intro f
    rw [List.length_append, show f + (ts.length + [t].length) = (f + 1) + ts.length by simp; omega, ih (f + 1)]
    show ts ++ (match oneL (l.drop p) with | none => [] | some t => t :: framesF f ((l.drop p).drop (t.length + 8))) = _
    rw [h2]
    show ts ++ (t :: framesF f ((l.drop p).drop (t.length + 8))) = _
    rw [List.drop_drop, List.append_assoc]
    rfl
theorem Fr.done {l : List UInt8} {ts : List (List UInt8)} {p : Nat} (h : Fr l ts p) (hn : oneL (l.drop p) = none) : framesL l = ts := by
  obtain ⟨_, h2, h3⟩ := h.size
  unfold framesL
  obtain ⟨f, hf⟩ : ∃ f, l.length + 1 = (f + 1) + ts.length := ⟨l.length - ts.length, by omega⟩
  rw [hf, h.frames (f + 1)]
  show ts ++ (match oneL (l.drop p) with | none => [] | some t => t :: framesF f ((l.drop p).drop (t.length + 8))) = _
  rw [hn, List.append_nil]
set_option maxRecDepth 100000 in
set_option maxHeartbeats 800000 in
theorem frames_any (s : ByteArray) (hs : s.size ≤ 1099511627776) (w : World) : Calls Try.prog 35 #[.string s] w fun e w' => ∃ (gb : Option Nat) (cap : Nat) (ns : List ByteArray),
    e = .returned (.tuple #[.slice (gb.map fun b => ⟨b, 0, none⟩) ns.length cap, .int .i64 (fsize (framesL s.data.toList) : Nat)]) ∧ (SRowO w' gb cap ns ∧ ns.map (·.data.toList) = framesL s.data.toList ∧ (∀ b, gb = some b → w.heap.size ≤ b)) ∧ Below w.heap.size w w' := by
  have hlen : s.data.toList.length = s.size := by rw [Array.length_toList]; rfl
  have Hlen := Lib.hid hlen
  have Hs := Lib.hid hs
  clear hlen hs
  go_enter Try.func35, Try.ntmps35
  go_wp2_with fail
  go_loopw [2, 3] (fun v i wr => ∃ (gb : Option Nat) (cap : Nat) (ns : List ByteArray) (p : Nat), v = .slice (gb.map fun b => ⟨b, 0, none⟩) ns.length cap ∧ i = .int .i64 p ∧ SRowO wr gb cap ns ∧ Fr s.data.toList (ns.map (·.data.toList)) p ∧ (∀ b, gb = some b → w.heap.size ≤ b) ∧ Below w.heap.size w wr) (fun _ i _ => s.size + 1 - (intOf i).toNat)
  case atStart => exact ⟨none, 0, [], 0, rfl, rfl, ⟨rfl, rfl⟩, Fr.nil, (fun b h => by cases h), Below.refl _ _⟩
  case round =>
    obtain ⟨gb, cap, ns, p, rfl, rfl, hR, hF, hgb, hb⟩ := hrel
    obtain ⟨k1, k2, k3⟩ := hF.size
    rw [Hlen.out] at k2
    rw [List.length_map] at k3
    have hps : (p : Int) ≤ (s.size : Int) := by omega
    have hp0 : (0 : Int) ≤ (p : Int) := by omega
    have hone := one_any (s.extract p s.size) (by have := Hs.out; simp; omega) wr
    have hex : (s.extract p s.size).data.toList = s.data.toList.drop p := by
      simp only [ByteArray.data_extract, Array.toList_extract, List.extract_eq_take_drop]
      rw [List.take_of_length_le (by rw [List.length_drop, Hlen.out]; exact Nat.le_refl _)]
    rw [hex] at hone
    obtain ⟨a, ha⟩ : ∃ a : Option Addr, a = gb.map fun b => ⟨b, 0, none⟩ := ⟨_, rfl⟩
    obtain ⟨c, hc⟩ : ∃ c, c = ns.length := ⟨_, rfl⟩
    rw [← ha, ← hc]
    have Hone := Lib.hid hone
    have HH := Lib.hid (And.intro hR (And.intro hF (And.intro hgb (And.intro hb (And.intro ha (And.intro hc (And.intro k1 (And.intro k2 k3))))))))
    clear hone hex hR hF hgb hb ha hc k1 k2 k3
    go_wp2_with fail
    refine Hone.out.mono ?_
    rintro e w1 ⟨X, b, rfl, hX, hb1⟩
    have HX := Lib.hid (And.intro hX hb1)
    clear hX hb1 Hone
    cases ho : oneL (s.data.toList.drop p) with
    | none =>
      obtain rfl : b = false := by rw [HX.out.1.1, ho]; rfl
      have Ho := Lib.hid ho
      clear ho
      go_wp2_with fail
      go_ret2
      obtain ⟨hR, hF, hgb, hb, ha, hc, k1, k2, k3⟩ := HH.out
      have hdone := hF.done Ho.out
      refine ⟨gb, cap, ns, ?_, ⟨hR.kept fun b e => HX.out.2.block b (by rw [e] at hR; exact hR.lt), hdone.symm, hgb⟩, hb.trans (HX.out.2.mono hb.size)⟩
      rw [hdone, ← k1, ← ha, ← hc]
      rfl
    | some t =>
      obtain rfl : b = true := by rw [HX.out.1.1, ho]; rfl
      have hXt := HX.out.1.2 t ho
      have htl := oneL_length ho
      have hXs : X.size = t.length := by rw [hXt]; rfl
      obtain ⟨hR, hF, hgb, hb, ha, hc, k1, k2, k3⟩ := HH.out
      rw [List.length_drop, Hlen.out] at htl
      have hR1 : SRowO w1 gb cap ns := hR.kept fun b e => HX.out.2.block b (by rw [e] at hR; exact hR.lt)
      obtain ⟨b', cap', W, hrun, r1, r2, r3⟩ := run_append_string w1 32 gb cap ns hR1 X (by have := Hs.out; omega)
      rw [← ha, ← hc] at hrun
      have hXl : X.data.toList = t := by rw [hXt]
      have hbW : Below w.heap.size w W := by
        have e1 : Below w.heap.size w (w1.alloc (.cells #[.string X] 9 (0, 0))) := (hb.trans (HX.out.2.mono hb.size)).alloc (Nat.le_trans hb.size HX.out.2.size) _
        exact e1.grown r3 e1.size (fun k e => hgb k e)
      have hgb' : w.heap.size ≤ b' := by
        rcases r2 with e | e
        · exact hgb b' e
        · exact Nat.le_trans (Nat.le_trans hb.size HX.out.2.size) e
      have hF' : Fr s.data.toList ((ns ++ [X]).map (·.data.toList)) (p + (t.length + 8)) := by
        rw [List.map_append, List.map_singleton, hXl]; exact hF.snoc ho
      have Hrun := Lib.hid hrun
      have HF := Lib.hid (And.intro r1 (And.intro hF' (And.intro hgb' (And.intro hbW (And.intro hXs (And.intro htl hc))))))
      have hXb : (X.size : Int) ≤ 65536 := by rw [hXs]; omega
      have hp1 : (p : Int) ≤ 1099511627776 := by have := Hs.out; omega
      clear hR hF hgb hb ha hc k1 k2 k3 hR1 hrun r1 r2 r3 hXl hbW hgb' hF' hXs htl hXt ho HX HH
      go_wp2_with (at_builtin; refine wpList_append_run _ _ 32 32 _ _ _ W (by rfl) (by rfl) Hrun.out ?_; go_frame)
      obtain ⟨q1, q2, q3, q4, q5, q6, q7⟩ := HF.out
      refine ⟨⟨some b', cap', ns ++ [X], _, ?_, ?_, q1, q2, fun b e => (by cases e; exact q3), q4⟩, ?_⟩
      · rw [List.length_append, ← q7]; rfl
      · rw [← q5]; go_num
      · simp [intOf]; omega
end Go.Proofs.Ytmjeanbbhacnaaa

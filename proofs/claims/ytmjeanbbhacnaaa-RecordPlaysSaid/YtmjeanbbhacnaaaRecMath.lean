/- Frames, read back: plain laws on lists of bytes. And the examples of chapter 7. -/
import Derived.Test.YtmjeanbbhacnaaaRecWhole
namespace Go.Proofs.Ytmjeanbbhacnaaa
open Go.RowKit
theorem framesF_enough : ∀ (f g : Nat) (l : List UInt8), l.length < f → l.length < g → framesF f l = framesF g l
  | 0, _, l, h, _ => absurd h (Nat.not_lt_zero _)
  | _ + 1, 0, l, _, h => absurd h (Nat.not_lt_zero _)
  | f + 1, g + 1, l, h1, h2 => by
    show (match oneL l with | none => [] | some t => t :: framesF f (l.drop (t.length + 8))) = (match oneL l with | none => [] | some t => t :: framesF g (l.drop (t.length + 8)))
    cases ho : oneL l with
    | none => rfl
    | some t =>
      have := (oneL_length ho).1
      show t :: _ = t :: _
      rw [framesF_enough f g (l.drop (t.length + 8)) (by rw [List.length_drop]; omega) (by rw [List.length_drop]; omega)]
theorem framesL_none {l : List UInt8} (h : oneL l = none) : framesL l = [] := by
  unfold framesL
  show (match oneL l with | none => [] | some t => t :: framesF l.length (l.drop (t.length + 8))) = []
  rw [h]
theorem framesL_some {l t : List UInt8} (h : oneL l = some t) : framesL l = t :: framesL (l.drop (t.length + 8)) := by
  have hl := (oneL_length h).1
  show (match oneL l with | none => [] | some t => t :: framesF l.length (l.drop (t.length + 8))) = _
  rw [h]
  show t :: framesF l.length (l.drop (t.length + 8)) = _
  unfold framesL
  rw [framesF_enough l.length ((l.drop (t.length + 8)).length + 1) _ (by rw [List.length_drop]; omega) (by omega)]
theorem num_len (t : List UInt8) (ht : t.length ≤ 65536) : (BitVec.ofNat 32 t.length).toNat = t.length := by rw [BitVec.toNat_ofNat]; omega
theorem num4_append4 (a r : List UInt8) (ha : a.length = 4) : num4 (a ++ r) = num4 a := by
  rcases a with _ | ⟨a0, _ | ⟨a1, _ | ⟨a2, _ | ⟨a3, _ | ⟨a4, q⟩⟩⟩⟩⟩
  · simp at ha
  · simp at ha
  · simp at ha
  · simp at ha
  · rfl
  · simp at ha
theorem num4_take (l : List UInt8) (k : Nat) (hk : 4 ≤ k) : num4 (l.take k) = num4 l := by
  rcases l with _ | ⟨a0, _ | ⟨a1, _ | ⟨a2, _ | ⟨a3, q⟩⟩⟩⟩
  · simp
  all_goals (
    obtain ⟨j, rfl⟩ : ∃ j, k = j + 4 := ⟨k - 4, by omega⟩
    simp [num4])
theorem oneL_frame (t r : List UInt8) (ht : t.length ≤ 65536) : oneL (frameL t ++ r) = some t := by
  have hl : (frameL t ++ r).length = t.length + 8 + r.length := by rw [List.length_append, frameL_length]
  have hn : num4 (frameL t ++ r) = BitVec.ofNat 32 t.length := by
    unfold frameL; rw [List.append_assoc]; exact num4_fB4 _ _
  have e4 : (frameL t ++ r).take 4 = fB4 (BitVec.ofNat 32 t.length) := by
    unfold frameL; rw [List.append_assoc, List.take_left' (fB4_length _)]
  have d4 : (frameL t ++ r).drop 4 = fB4 (CrcM.more (CrcM.sum (fB4 (BitVec.ofNat 32 t.length))) t) ++ (t ++ r) := by
    unfold frameL; rw [List.append_assoc, List.drop_left' (fB4_length _), List.append_assoc]
  have d8 : (frameL t ++ r).drop 8 = t ++ r := by
    rw [show (8 : Nat) = 4 + 4 from rfl, ← List.drop_drop, d4, List.drop_left' (fB4_length _)]
  unfold oneL
  rw [hn, num_len t ht, e4, d8, d4, num4_fB4, List.take_left' rfl, if_neg (by omega), if_neg (by omega), if_pos rfl]
theorem oneL_torn (t : List UInt8) (ht : t.length ≤ 65536) (k : Nat) (hk : k < t.length + 8) : oneL ((frameL t).take k) = none := by
  have hl : ((frameL t).take k).length = k := by rw [List.length_take, frameL_length]; omega
  unfold oneL
  rw [hl]
  by_cases h8 : k < 8
  · rw [if_pos h8]
  · have hn : num4 ((frameL t).take k) = BitVec.ofNat 32 t.length := by
      rw [num4_take _ _ (by omega)]
      unfold frameL; exact num4_fB4 _ _
    rw [if_neg h8, hn, num_len t ht, if_pos (by omega)]
theorem framesL_frame (t r : List UInt8) (ht : t.length ≤ 65536) : framesL (frameL t ++ r) = t :: framesL r := by
  rw [framesL_some (oneL_frame t r ht)]
  congr 1
  rw [← frameL_length, List.drop_left' rfl]
theorem framesL_one (t : List UInt8) (ht : t.length ≤ 65536) : framesL (frameL t) = [t] := by
  have := framesL_frame t [] ht
  rw [List.append_nil] at this
  rw [this]
  rfl
/-- The frames of texts, one behind the other. -/
def frameAll (ts : List (List UInt8)) : List UInt8 := (ts.map frameL).flatten
theorem frameAll_cons (t : List UInt8) (ts : List (List UInt8)) : frameAll (t :: ts) = frameL t ++ frameAll ts := rfl
theorem frameAll_snoc (ts : List (List UInt8)) (t : List UInt8) : frameAll (ts ++ [t]) = frameAll ts ++ frameL t := by simp [frameAll]
theorem frameAll_length (ts : List (List UInt8)) : (frameAll ts).length = fsize ts := by
  induction ts with
  | nil => rfl
  | cons t ts ih => rw [frameAll_cons, List.length_append, ih, frameL_length]; simp [fsize]
theorem framesL_all (ts : List (List UInt8)) (r : List UInt8) (h : ∀ t ∈ ts, t.length ≤ 65536) : framesL (frameAll ts ++ r) = ts ++ framesL r := by
  induction ts with
  | nil => rfl
  | cons t ts ih =>
    rw [frameAll_cons, List.append_assoc, framesL_frame t _ (h t List.mem_cons_self), ih fun x hx => h x (List.mem_cons_of_mem t hx)]
    rfl
theorem fsize_one (t : List UInt8) : fsize [t] = t.length + 8 := by simp [fsize]
set_option maxRecDepth 100000 in
set_option maxHeartbeats 800000 in
theorem examples07 (w : World) : Calls Try.prog 23 #[] w fun e w' => e = .returned (.bool true) ∧ Below w.heap.size w w' := by
  obtain ⟨X, hX⟩ : ∃ X : ByteArray, X = ⟨(frameL [120]).toArray⟩ := ⟨_, rfl⟩
  have hf : ∀ w, Calls Try.prog 33 #[.string ⟨#[120]⟩] w fun e w' => e = .returned (.tuple #[.string X, .bool true]) ∧ Below w.heap.size w w' := by
    rw [hX]; exact frame_any ⟨#[120]⟩ (by decide)
  have hXl : X.data.toList = frameL [120] := by rw [hX]
  have hX9 : X.size = 9 := by rw [← list_size, hXl, frameL_length]; rfl
  have hall : (X ++ X ++ ⟨#[121]⟩ : ByteArray).data.toList = frameL [120] ++ (frameL [120] ++ [121]) := by simp [hXl]
  have hfr := frames_any (X ++ X ++ ⟨#[121]⟩) (by simp [hX9]; decide)
  rw [hall] at hfr
  have hts : framesL (frameL [120] ++ (frameL [120] ++ [121])) = [[120], [120]] := by
    rw [framesL_frame _ _ (by simp), framesL_frame _ _ (by simp), framesL_none (by decide)]
  rw [hts, show fsize [[120], [120]] = 18 from rfl] at hfr
  have H := Lib.hid (And.intro hf hfr)
  have hXi : (X.size : Int) = 9 := by omega
  have hXX : ((X ++ X).size : Int) ≤ 18 := by rw [ByteArray.size_append]; omega
  clear hf hfr hts hall hX9 hXl hX
  go_enter Try.func23, Try.ntmps23
  go_wp2_with fail
  refine (H.out.1 _).mono ?_
  rintro e w1 ⟨rfl, hb1⟩
  go_wp2_with fail
  refine (H.out.2 _).mono ?_
  rintro e w2 ⟨gb, cap, ns, rfl, ⟨hR, hns, hgb⟩, hb2⟩
  have hl : ns.length = 2 := by have := congrArg List.length hns; simpa using this
  obtain ⟨b, rfl, hc⟩ := hR.cell 0 (by omega)
  have hn0 : ns[0]'(by omega) = ⟨#[120]⟩ := by
    rcases ns with _ | ⟨x, r⟩
    · simp at hl
    · simp only [List.map_cons, List.cons.injEq] at hns
      apply ByteArray.ext
      exact Array.toList_inj.1 hns.1
  rw [hn0] at hc
  have Hb := Lib.hid (hb1.trans (hb2.mono hb1.size))
  clear hR hns hgb hn0 hb1 hb2
  rw [hl]
  clear hl
  go_wp2_with fail
  go_ret
  exact ⟨rfl, Hb.out⟩
end Go.Proofs.Ytmjeanbbhacnaaa

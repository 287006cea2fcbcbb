/- Names put in their order, one by one; what a slice of several elements, appended to a row, leaves. The bound: at most 2^30 elements. -/
import Derived.Test.YtgjaennilkhejaaWMany
namespace Go.Proofs.Ytgjaennilkhejaa
open Go.RowKit
theorem bLess_eq : ∀ (x y : List UInt8), Op.bytesLess x y = decide (x < y)
  | [], [] => by simp [Op.bytesLess]
  | _ :: _, [] => by simp [Op.bytesLess]
  | [], _ :: _ => by simp [Op.bytesLess]
  | a :: x, b :: y => by
    rw [Op.bytesLess, bLess_eq x y]
    simp only [List.cons_lt_cons_iff]
    by_cases h1 : a < b <;> by_cases h2 : a = b <;> by_cases h3 : x < y <;> simp [h1, h2, h3]
def bl (y a : ByteArray) : Bool := Op.bytesLess y.toList a.toList
theorem bl_lt (y a : ByteArray) : bl y a = decide (y.data.toList < a.data.toList) := by unfold bl; rw [bLess_eq, Lib.toList_data, Lib.toList_data]
def insR (a : ByteArray) : List ByteArray → List ByteArray
  | [] => [a]
  | y :: r => if bl y a = true then y :: insR a r else a :: y :: r
theorem insR_at (a : ByteArray) : ∀ (ns : List ByteArray) (k : Nat), k ≤ ns.length → (∀ i (h : i < ns.length), i < k → bl ns[i] a = true) → (∀ h : k < ns.length, bl ns[k] a = false) → insR a ns = ns.take k ++ a :: ns.drop k
  | [], k, hk, _, _ => by
    have : k = 0 := by simpa using hk
    subst this; rfl
  | y :: r, 0, _, _, h2 => by
    have := h2 (by simp)
    simp only [List.getElem_cons_zero] at this
    rw [insR, if_neg (by rw [this]; decide)]; rfl
  | y :: r, k + 1, hk, h1, h2 => by
    have h0 := h1 0 (by simp) (by omega)
    simp only [List.getElem_cons_zero] at h0
    have ih := insR_at a r k (by simpa using hk) (fun i hi hlt => by
      have := h1 (i + 1) (by simpa using hi) (by omega)
      simpa using this) (fun h => by
      have := h2 (by simpa using h)
      simpa using this)
    rw [insR, if_pos h0, ih]; rfl
theorem insR_perm (a : ByteArray) : ∀ ns : List ByteArray, (insR a ns).Perm (a :: ns)
  | [] => List.Perm.refl _
  | y :: r => by
    rw [insR]
    split
    · exact ((insR_perm a r).cons y).trans (List.Perm.swap a y r)
    · exact List.Perm.refl _
def Up (ns : List ByteArray) : Prop := ns.Pairwise fun x y => x.data.toList ≤ y.data.toList
theorem insR_up (a : ByteArray) : ∀ ns : List ByteArray, Up ns → Up (insR a ns)
  | [], _ => by simp [insR, Up]
  | y :: r, h => by
    obtain ⟨h1, h2⟩ := List.pairwise_cons.1 h
    rw [insR]
    split
    · rename_i hb
      rw [bl_lt] at hb
      refine List.pairwise_cons.2 ⟨fun z hz => ?_, insR_up a r h2⟩
      rcases List.mem_cons.1 ((insR_perm a r).mem_iff.1 hz) with e | e
      · rw [e]; exact List.le_of_lt (of_decide_eq_true hb)
      · exact h1 z e
    · rename_i hb
      rw [bl_lt] at hb
      have hle : a.data.toList ≤ y.data.toList := List.not_lt.1 fun e => hb (decide_eq_true e)
      refine List.pairwise_cons.2 ⟨fun z hz => ?_, h⟩
      rcases List.mem_cons.1 hz with e | e
      · rw [e]; exact hle
      · exact List.le_trans hle (h1 z e)
def insAll (xs : List ByteArray) : List ByteArray := xs.foldl (fun ns a => insR a ns) []
theorem insAll_snoc (xs : List ByteArray) (a : ByteArray) : insAll (xs ++ [a]) = insR a (insAll xs) := by simp [insAll]
theorem insAll_both (xs : List ByteArray) : Up (insAll xs) ∧ (insAll xs).Perm xs := by
  have key : ∀ (xs ns : List ByteArray), Up ns → Up (xs.foldl (fun ns a => insR a ns) ns) ∧ (xs.foldl (fun ns a => insR a ns) ns).Perm (ns ++ xs) := by
    intro xs
    induction xs with
    | nil => intro ns h; exact ⟨h, by simp⟩
    | cons a r ih =>
      intro ns h
      obtain ⟨h1, h2⟩ := ih (insR a ns) (insR_up a ns h)
      refine ⟨h1, h2.trans ?_⟩
      exact ((insR_perm a ns).append_right r).trans (List.perm_middle.symm)
  have h := key xs [] List.Pairwise.nil
  simpa [insAll] using h
theorem insAll_length (xs : List ByteArray) : (insAll xs).length = xs.length := (insAll_both xs).2.length_eq
theorem ba_inj {x y : ByteArray} (h : x.data.toList = y.data.toList) : x = y := by
  obtain ⟨⟨l⟩⟩ := x
  obtain ⟨⟨m⟩⟩ := y
  have : l = m := h
  rw [this]
theorem up_unique {a b : List ByteArray} (ha : Up a) (hb : Up b) (h : a.Perm b) : a = b :=
  List.Perm.eq_of_pairwise (le := fun x y : ByteArray => x.data.toList ≤ y.data.toList) (fun x y _ _ h1 h2 => ba_inj (List.le_antisymm h1 h2)) ha hb h
end Go.Proofs.Ytgjaennilkhejaa

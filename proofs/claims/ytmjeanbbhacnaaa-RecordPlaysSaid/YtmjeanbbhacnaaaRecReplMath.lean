/- What Replace and Add leave of a disk that crashes in some step: plain laws on states. -/
import Derived.Test.YtmjeanbbhacnaaaRecTears
namespace Go.Proofs.Ytmjeanbbhacnaaa
open Go.RowKit
theorem St.deed_dec {l : List Fi} {room after torn : Int} {n : ByteArray} {F : List Fi → List Fi} (ha : 0 < after) (h : (fget l n).isSome = true) : St.deed ⟨l, room, after, torn, false⟩ n F = (⟨F l, room, after - 1, torn, false⟩, 0) := by
  unfold St.deed
  show (if after = 0 then _ else _) = _
  rw [if_neg (by omega)]
  simp only [h, if_true, if_pos ha]
theorem St.deed_crash {l : List Fi} {room torn : Int} {n : ByteArray} {F : List Fi → List Fi} : St.deed ⟨l, room, 0, torn, false⟩ n F = (⟨l, room, 0, torn, true⟩, 19) := rfl
theorem St.deed_dead {l : List Fi} {room after torn : Int} {n : ByteArray} {F : List Fi → List Fi} : St.deed ⟨l, room, after, torn, true⟩ n F = (⟨l, room, after, torn, true⟩, 19) := rfl
def nF : ByteArray := ⟨#[102]⟩
def nL : ByteArray := ⟨#[108, 111, 103]⟩
def nFN : ByteArray := ⟨#[102, 46, 110, 101, 119]⟩
def nLN : ByteArray := ⟨#[108, 111, 103, 46, 110, 101, 119]⟩
theorem newF : newName nF = nFN := by decide
theorem newL : newName nL = nLN := by decide
theorem ne1 : nF ≠ nL := by decide
theorem ne2 : nF ≠ nFN := by decide
theorem ne3 : nL ≠ nFN := by decide
theorem ne4 : nF ≠ nLN := by decide
theorem ne5 : nL ≠ nLN := by decide
theorem ne6 : nFN ≠ nLN := by decide
theorem flost_full (keep : Int) (n : ByteArray) (X : List UInt8) : flost keep ⟨n, X, X.length⟩ = ⟨n, X, X.length⟩ := by
  unfold flost keepN; simp
theorem flost_part (keep : Int) (n : ByteArray) (X Y : List UInt8) : flost keep ⟨n, X ++ Y, X.length⟩ = ⟨n, X ++ Y.take (min keep.toNat Y.length), X.length + min keep.toNat Y.length⟩ := by
  have e : keepN keep ⟨n, X ++ Y, X.length⟩ = X.length + min keep.toNat Y.length := by unfold keepN; simp
  unfold flost
  rw [e]
  simp only
  rw [List.take_append, List.take_of_length_le (by omega), Nat.add_sub_cancel_left]
theorem flost_new (keep : Int) (n : ByteArray) (Y : List UInt8) (i : Nat) : ∃ Z j, flost keep ⟨n, Y, i⟩ = ⟨n, Z, j⟩ ∧ Z.length ≤ Y.length := ⟨_, _, rfl, by show (Y.take _).length ≤ _; rw [List.length_take]; exact Nat.min_le_right _ _⟩
def twoF (a b : List UInt8) (i j : Nat) : List Fi := [⟨nF, a, i⟩, ⟨nL, b, j⟩]
theorem two_total (a b : List UInt8) (i j : Nat) : ftotal (twoF a b i j) = a.length + b.length := by simp [twoF, ftotal]
theorem two_layN (a b y : List UInt8) (i j : Nat) : flay (twoF a b i j) nFN y = twoF a b i j ++ [⟨nFN, y, 0⟩] := by
  simp [flay, fget, fput, twoF, ne2, ne3]
theorem two_layL (a b y : List UInt8) (i j : Nat) : flay (twoF a b i j) nL y = twoF a (b ++ y) i j := by
  simp [flay, fget, fput, twoF, ne1]
theorem two_syncL (a b : List UInt8) (i j : Nat) : fsync nL (twoF a b i j) = twoF a b i b.length := by
  simp [fsync, fget, fput, twoF, ne1]
theorem three_syncN (a b y : List UInt8) (i j k : Nat) : fsync nFN (twoF a b i j ++ [⟨nFN, y, k⟩]) = twoF a b i j ++ [⟨nFN, y, y.length⟩] := by
  simp [fsync, fget, fput, twoF, ne2, ne3]
theorem three_ren (a b y : List UInt8) (i j k : Nat) : frename nFN nF (twoF a b i j ++ [⟨nFN, y, k⟩]) = twoF y b k j := by
  simp [frename, fget, fput, fdel, twoF, ne2, ne3, ne1, Ne.symm ne1]
theorem two_clean (a b : List UInt8) (i j : Nat) (r af t : Int) : St.clean nF ⟨twoF a b i j, r, af, t, false⟩ = (⟨twoF a b i j, r, af, t, false⟩, 0) := by
  unfold St.clean
  rw [newF, if_neg (by simp [rdThere, fget, twoF, ne2, ne3])]
theorem two_hasL (a b : List UInt8) (i j : Nat) : (fget (twoF a b i j) nL).isSome = true := by simp [fget, twoF, ne1]
theorem three_hasN (a b y : List UInt8) (i j k : Nat) : (fget (twoF a b i j ++ [⟨nFN, y, k⟩]) nFN).isSome = true := by simp [fget, twoF, ne2, ne3]
theorem add_dead (n : ByteArray) (u : List UInt8) (hu : u.length ≤ 65536) (l : List Fi) (r af t : Int) : St.add n u ⟨l, r, af, t, true⟩ = (⟨l, r, af, t, true⟩, 19) := by
  unfold St.add
  rw [if_neg (by omega)]
  have e : St.app n (frameL u) ⟨l, r, af, t, true⟩ = (⟨l, r, af, t, true⟩, 19) := St.append_dead
  simp [St.until, e]
/-- Replace, wherever it crashes; then Add; then what is not lost. -/
theorem stage (s t u : List UInt8) (hs : s.length ≤ 100) (ht : t.length ≤ 100) (hu : u.length ≤ 100) (k : Nat) (torn keep : Int) :
    ∃ st2 A st3 B v m j R, St.replace nF t ⟨twoF (frameL s) (frameL s) (frameL s).length (frameL s).length, 10000, (k : Int), torn, false⟩ = (st2, A) ∧ St.add nL u st2 = (st3, B) ∧ st3.room = 10000 ∧
      st3.files.map (flost keep) = twoF (frameL v) (frameL s ++ (frameL u).take m) (frameL v).length j ++ R ∧ (R = [] ∨ ∃ Y i, R = [⟨nFN, Y, i⟩] ∧ Y.length ≤ 108) ∧ (v = s ∨ v = t) ∧ (A = 0 → v = t) ∧ (B = 0 → m = (frameL u).length) ∧ m ≤ (frameL u).length := by
  obtain ⟨fs, hfs⟩ : ∃ x, x = frameL s := ⟨_, rfl⟩
  obtain ⟨ft, hft⟩ : ∃ x, x = frameL t := ⟨_, rfl⟩
  obtain ⟨fu, hfu⟩ : ∃ x, x = frameL u := ⟨_, rfl⟩
  have lfs : fs.length = s.length + 8 := by rw [hfs, frameL_length]
  have lft : ft.length = t.length + 8 := by rw [hft, frameL_length]
  have lfu : fu.length = u.length + 8 := by rw [hfu, frameL_length]
  have hrep : ∀ st, St.replace nF t st = St.until [St.clean nF, St.app nFN ft, St.sync nFN, St.ren nFN nF] st := fun st => by
    unfold St.replace
    rw [if_neg (by omega), ← hft]
    unfold St.swap
    rw [if_neg (by intro e; rw [e] at lft; simp at lft), newF]
  have hadd : ∀ st, St.add nL u st = St.until [St.app nL fu, St.sync nL] st := fun st => by
    unfold St.add
    rw [if_neg (by omega), ← hfu]
  rw [← hfs, ← hfu]
  have hno : ∀ j : Nat, twoF fs fs fs.length j = twoF (frameL s) fs (frameL s).length j := fun j => by rw [← hfs]
  have hyes : ∀ (b : List UInt8) (j : Nat), twoF ft b ft.length j = twoF (frameL t) b (frameL t).length j := fun b j => by rw [← hft]
  have hcl := two_clean fs fs fs.length fs.length 10000 (k : Int) torn
  have hdeadN : ∀ (Y : List UInt8) (i : Nat), Y.length ≤ 108 → ∃ j R, ((twoF fs fs fs.length fs.length ++ ([⟨nFN, Y, i⟩] : List Fi)).map (flost keep)) = twoF (frameL s) (fs ++ fu.take 0) (frameL s).length j ++ R ∧ (R = [] ∨ ∃ Y i, R = [(⟨nFN, Y, i⟩ : Fi)] ∧ Y.length ≤ 108) := fun Y i hY => by
    obtain ⟨Z, j, e1, e2⟩ := flost_new keep nFN Y i
    refine ⟨fs.length, [⟨nFN, Z, j⟩], ?_, .inr ⟨Z, j, rfl, by omega⟩⟩
    rw [List.map_append, List.map_singleton, e1, List.take_zero, List.append_nil, ← hfs]
    simp [twoF, flost_full]
  rcases Nat.lt_or_ge k 1 with h | h
  · -- the first step
    have h0 : k = 0 := by omega
    subst h0
    have c1 : St.app nFN ft ⟨twoF fs fs fs.length fs.length, 10000, ((0 : Nat) : Int), torn, false⟩ = (⟨tornL (twoF fs fs fs.length fs.length) nFN ft (decide ((ftotal (twoF fs fs fs.length fs.length) : Int) + ft.length ≤ 10000)) (tornK torn ft.length), 10000, 0, torn, true⟩, 19) := rfl
    by_cases hz : 0 < tornK torn ft.length
    · rw [decide_eq_true (by rw [two_total]; omega), tornL_yes _ _ _ _ hz, two_layN] at c1
      obtain ⟨j, R, e1, e2⟩ := hdeadN (ft.take (tornK torn ft.length)) 0 (by rw [List.length_take]; omega)
      exact ⟨_, 19, _, 19, s, 0, j, R, by rw [hrep]; simp only [St.until, hcl, c1, if_true]; rfl, add_dead nL u (by omega) _ _ _ _, rfl, e1, e2, .inl rfl, fun h => absurd h (by decide), fun h => absurd h (by decide), by omega⟩
    · rw [tornL_no _ _ _ _ _ (.inr hz)] at c1
      refine ⟨_, 19, _, 19, s, 0, fs.length, [], by rw [hrep]; simp only [St.until, hcl, c1, if_true]; rfl, add_dead nL u (by omega) _ _ _ _, rfl, ?_, .inl rfl, .inl rfl, fun h => absurd h (by decide), fun h => absurd h (by decide), by omega⟩
      rw [List.take_zero, List.append_nil, List.append_nil, ← hfs]
      simp [twoF, flost_full]
  · have c1 : St.app nFN ft ⟨twoF fs fs fs.length fs.length, 10000, (k : Int), torn, false⟩ = (⟨twoF fs fs fs.length fs.length ++ [⟨nFN, ft, 0⟩], 10000, (k : Int) - 1, torn, false⟩, 0) := by
      unfold St.app; rw [St.append_dec (by omega) (by rw [two_total]; omega), two_layN]
    rcases Nat.lt_or_ge k 2 with h2 | h2
    · have h0 : k = 1 := by omega
      subst h0
      have c2 : St.sync nFN ⟨twoF fs fs fs.length fs.length ++ [⟨nFN, ft, 0⟩], 10000, ((1 : Nat) : Int) - 1, torn, false⟩ = (⟨twoF fs fs fs.length fs.length ++ [⟨nFN, ft, 0⟩], 10000, 0, torn, true⟩, 19) := rfl
      obtain ⟨j, R, e1, e2⟩ := hdeadN ft 0 (by omega)
      exact ⟨_, 19, _, 19, s, 0, j, R, by rw [hrep]; simp only [St.until, hcl, c1, c2, if_true]; rfl, add_dead nL u (by omega) _ _ _ _, rfl, e1, e2, .inl rfl, fun h => absurd h (by decide), fun h => absurd h (by decide), by omega⟩
    · have c2 : St.sync nFN ⟨twoF fs fs fs.length fs.length ++ [⟨nFN, ft, 0⟩], 10000, (k : Int) - 1, torn, false⟩ = (⟨twoF fs fs fs.length fs.length ++ [⟨nFN, ft, ft.length⟩], 10000, (k : Int) - 1 - 1, torn, false⟩, 0) := by
        unfold St.sync; rw [St.deed_dec (by omega) (three_hasN _ _ _ _ _ _), three_syncN]
      rcases Nat.lt_or_ge k 3 with h3 | h3
      · have h0 : k = 2 := by omega
        subst h0
        have c3 : St.ren nFN nF ⟨twoF fs fs fs.length fs.length ++ [⟨nFN, ft, ft.length⟩], 10000, ((2 : Nat) : Int) - 1 - 1, torn, false⟩ = (⟨twoF fs fs fs.length fs.length ++ [⟨nFN, ft, ft.length⟩], 10000, 0, torn, true⟩, 19) := rfl
        obtain ⟨j, R, e1, e2⟩ := hdeadN ft ft.length (by omega)
        exact ⟨_, 19, _, 19, s, 0, j, R, by rw [hrep]; simp only [St.until, hcl, c1, c2, c3, if_true]; rfl, add_dead nL u (by omega) _ _ _ _, rfl, e1, e2, .inl rfl, fun h => absurd h (by decide), fun h => absurd h (by decide), by omega⟩
      · have c3 : St.ren nFN nF ⟨twoF fs fs fs.length fs.length ++ [⟨nFN, ft, ft.length⟩], 10000, (k : Int) - 1 - 1, torn, false⟩ = (⟨twoF ft fs ft.length fs.length, 10000, (k : Int) - 1 - 1 - 1, torn, false⟩, 0) := by
          unfold St.ren; rw [St.deed_dec (by omega) (three_hasN _ _ _ _ _ _), three_ren]
        have hR : St.replace nF t ⟨twoF fs fs fs.length fs.length, 10000, (k : Int), torn, false⟩ = (⟨twoF ft fs ft.length fs.length, 10000, (k : Int) - 1 - 1 - 1, torn, false⟩, 0) := by
          rw [hrep]; simp only [St.until, hcl, c1, c2, c3, if_true]
        rcases Nat.lt_or_ge k 4 with h4 | h4
        · have h0 : k = 3 := by omega
          subst h0
          have c4 : St.app nL fu ⟨twoF ft fs ft.length fs.length, 10000, ((3 : Nat) : Int) - 1 - 1 - 1, torn, false⟩ = (⟨tornL (twoF ft fs ft.length fs.length) nL fu (decide ((ftotal (twoF ft fs ft.length fs.length) : Int) + fu.length ≤ 10000)) (tornK torn fu.length), 10000, 0, torn, true⟩, 19) := rfl
          have e4 : tornL (twoF ft fs ft.length fs.length) nL fu (decide ((ftotal (twoF ft fs ft.length fs.length) : Int) + fu.length ≤ 10000)) (tornK torn fu.length) = twoF ft (fs ++ fu.take (tornK torn fu.length)) ft.length fs.length := by
            by_cases hz : 0 < tornK torn fu.length
            · rw [decide_eq_true (by rw [two_total]; omega), tornL_yes _ _ _ _ hz, two_layL]
            · rw [tornL_no _ _ _ _ _ (.inr hz), show tornK torn fu.length = 0 by omega, List.take_zero, List.append_nil]
          rw [e4] at c4
          refine ⟨_, 0, _, 19, t, min keep.toNat (tornK torn fu.length), fs.length + min keep.toNat (tornK torn fu.length), [], hR, by rw [hadd]; simp only [St.until, c4]; rfl, rfl, ?_, .inl rfl, .inr rfl, fun _ => rfl, fun h => absurd h (by decide), ?_⟩
          · have hk : (fu.take (tornK torn fu.length)).length = tornK torn fu.length := by rw [List.length_take]; have := tornK_le torn fu.length; omega
            have e5 := flost_part keep nL fs (fu.take (tornK torn fu.length))
            rw [hk, List.take_take, show min (min keep.toNat (tornK torn fu.length)) (tornK torn fu.length) = min keep.toNat (tornK torn fu.length) by omega] at e5
            rw [List.append_nil, ← hyes]
            simp [twoF, flost_full, e5]
          · have := tornK_le torn fu.length; omega
        · have c4 : St.app nL fu ⟨twoF ft fs ft.length fs.length, 10000, (k : Int) - 1 - 1 - 1, torn, false⟩ = (⟨twoF ft (fs ++ fu) ft.length fs.length, 10000, (k : Int) - 1 - 1 - 1 - 1, torn, false⟩, 0) := by
            unfold St.app; rw [St.append_dec (by omega) (by rw [two_total]; omega), two_layL]
          rcases Nat.lt_or_ge k 5 with h5 | h5
          · have h0 : k = 4 := by omega
            subst h0
            have c5 : St.sync nL ⟨twoF ft (fs ++ fu) ft.length fs.length, 10000, ((4 : Nat) : Int) - 1 - 1 - 1 - 1, torn, false⟩ = (⟨twoF ft (fs ++ fu) ft.length fs.length, 10000, 0, torn, true⟩, 19) := rfl
            refine ⟨_, 0, _, 19, t, min keep.toNat fu.length, fs.length + min keep.toNat fu.length, [], hR, by rw [hadd]; simp only [St.until, c4, c5, if_true]; rfl, rfl, ?_, .inl rfl, .inr rfl, fun _ => rfl, fun h => absurd h (by decide), by omega⟩
            rw [List.append_nil, ← hyes]
            simp [twoF, flost_full, flost_part]
          · have c5 : St.sync nL ⟨twoF ft (fs ++ fu) ft.length fs.length, 10000, (k : Int) - 1 - 1 - 1 - 1, torn, false⟩ = (⟨twoF ft (fs ++ fu) ft.length (fs ++ fu).length, 10000, (k : Int) - 1 - 1 - 1 - 1 - 1, torn, false⟩, 0) := by
              unfold St.sync; rw [St.deed_dec (by omega) (two_hasL _ _ _ _), two_syncL]
            refine ⟨_, 0, ⟨twoF ft (fs ++ fu) ft.length (fs ++ fu).length, 10000, (k : Int) - 1 - 1 - 1 - 1 - 1, torn, false⟩, 0, t, fu.length, (fs ++ fu).length, [], hR, by rw [hadd]; simp only [St.until, c4, c5, if_true], rfl, ?_, .inl rfl, .inr rfl, fun _ => rfl, fun _ => rfl, Nat.le_refl _⟩
            rw [List.append_nil, ← hyes, List.take_length]
            simp only [twoF, List.map_cons, List.map_nil, flost_full]
end Go.Proofs.Ytmjeanbbhacnaaa

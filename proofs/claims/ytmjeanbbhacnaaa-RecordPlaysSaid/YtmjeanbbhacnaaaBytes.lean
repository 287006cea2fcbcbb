/- A row of bytes in a block, as a list of bytes: what it reads as, what it is behind a store; no program, no condition. -/
import Derived.WalkKit
import Derived.Laws.BytesString
import Derived.Laws.MakeOwn
import Derived.Laws.IdiomStrings
import Derived.OneCell
namespace Go.Proofs.Ytmjeanbbhacnaaa
open Go.RowKit
/-- The cells of a text's bytes. -/
def bcells (bs : List UInt8) : List Value := bs.map fun c => Value.int .u8 (c.toNat : Int)
theorem bcells_length (bs : List UInt8) : (bcells bs).length = bs.length := by simp [bcells]
theorem bcells_append (a b : List UInt8) : bcells (a ++ b) = bcells a ++ bcells b := by simp [bcells]
theorem bcells_set (bs : List UInt8) (k : Nat) (c : UInt8) : (bcells bs).set k (.int .u8 (c.toNat : Int)) = bcells (bs.set k c) := by simp [bcells, List.map_set]
theorem bcells_get (bs : List UInt8) (k : Nat) (h : k < bs.length) : (bcells bs)[k]? = some (.int .u8 (bs[k].toNat : Int)) := by simp [bcells, h]
theorem bcells_zero (n : Nat) : madeCells #[Value.int .u8 0] n = (bcells (List.replicate n 0)).toArray := by
  apply Array.ext_getElem?
  intro i
  by_cases h : i < n
  · simp [madeCells, bcells, h, Nat.mod_one]
  · simp [madeCells, bcells, h]
theorem push_bytes (bs : List UInt8) : ∀ s : ByteArray, (bs.map fun c => (c.toNat : Int)).foldl (fun r n => r.push (UInt8.ofNat n.toNat)) s = ⟨s.data ++ bs.toArray⟩ := by
  induction bs with
  | nil => intro s; simp
  | cons c bs ih =>
    intro s
    simp only [List.map_cons, List.foldl_cons]
    rw [ih]
    apply congrArg ByteArray.mk
    simp [ByteArray.push]
/-- A slice of bytes whose cells are known reads as a string. -/
theorem run_string_of {P : Program} (w : World) (a : Addr) (cap : Nat) (bs : List UInt8) (h : ∀ i, i < bs.length → w.cell? (a.add i) = (bcells bs)[i]?) :
    (Conv.bytesToString (.slice (some a) bs.length cap)).run P w = .ok (.string ⟨bs.toArray⟩) w := by
  have hl := run_loadCells_list (P := P) w a (bcells bs) (fun j v hv => by
    have hj : j < bs.length := by
      rcases Nat.lt_or_ge j bs.length with h' | h'
      · exact h'
      · rw [List.getElem?_eq_none (by rw [bcells_length]; exact h')] at hv; cases hv
    rw [h j hj]; exact hv)
  rw [bcells_length] at hl
  have := run_bytesToString (P := P) w a bs.length cap (bs.map fun c => (c.toNat : Int)) (by rw [hl]; simp [bcells])
  rw [this, push_bytes]
  simp
theorem add_head (g i : Nat) : (⟨g, 0, none⟩ : Addr).add i = ⟨g, i, none⟩ := by unfold Addr.add; split <;> simp_all
/-- .. the whole row of a block. -/
theorem run_string_row {P : Program} {w : World} {g : Nat} {t : TypeId} {fr : Nat × Nat} (cap : Nat) (bs : List UInt8) (hg : w.heap[g]? = some (.cells (bcells bs).toArray t fr)) :
    (Conv.bytesToString (.slice (some ⟨g, 0, none⟩) bs.length cap)).run P w = .ok (.string ⟨bs.toArray⟩) w :=
  run_string_of w _ cap bs fun i _ => by rw [add_head, cell_of_row w g i _ t fr hg]; simp
/-- Block g is a row of cap cells that may be written; its first ones are the bytes bs. -/
def BRow (w : World) (g cap : Nat) (t : TypeId) (bs : List UInt8) : Prop :=
  ∃ (row : Array Value) (fr : Nat × Nat), w.heap[g]? = some (.cells row t fr) ∧ row.size = cap ∧ (∀ k, k < cap → ¬ (fr.1 ≤ k ∧ k < fr.2)) ∧ bs.length ≤ cap ∧ ∀ i, i < bs.length → row[i]? = (bcells bs)[i]?
theorem BRow.lt {w : World} {g cap : Nat} {t : TypeId} {bs : List UInt8} (h : BRow w g cap t bs) : g < w.heap.size := by
  obtain ⟨row, fr, hg, _⟩ := h; exact lt_of_block hg
theorem BRow.kept {w w' : World} {g cap : Nat} {t : TypeId} {bs : List UInt8} (h : BRow w g cap t bs) (hb : w'.heap[g]? = w.heap[g]?) : BRow w' g cap t bs := by
  obtain ⟨row, fr, hg, r⟩ := h; exact ⟨row, fr, hb.trans hg, r⟩
theorem BRow.cell {w : World} {g cap : Nat} {t : TypeId} {bs : List UInt8} (h : BRow w g cap t bs) (k : Nat) (hk : k < bs.length) : w.cell? ⟨g, k, none⟩ = some (.int .u8 ((bs.getD k 0).toNat : Int)) := by
  obtain ⟨row, fr, hg, _, _, _, r⟩ := h
  rw [cell_of_row w g k row t fr hg, r k hk, bcells_get bs k hk, List.getD_eq_getElem?_getD, List.getElem?_eq_getElem hk]; rfl
theorem BRow.free {w : World} {g cap : Nat} {t : TypeId} {bs : List UInt8} (h : BRow w g cap t bs) (k : Nat) (hk : k < cap) : w.frozen? ⟨g, k, none⟩ = false := by
  obtain ⟨row, fr, hg, _, hf, _, _⟩ := h
  have := hf k hk
  simp [World.frozen?, hg]; omega
theorem BRow.set {w : World} {g cap : Nat} {t : TypeId} {bs : List UInt8} (h : BRow w g cap t bs) (k : Nat) (c : UInt8) : BRow (w.setCell ⟨g, k, none⟩ (.int .u8 (c.toNat : Int))) g cap t (bs.set k c) := by
  obtain ⟨row, fr, hg, hs, hf, hl, r⟩ := h
  refine ⟨row.setIfInBounds k (.int .u8 (c.toNat : Int)), fr, ?_, by simp [hs], hf, by simpa using hl, fun i hi => ?_⟩
  · have hlt := lt_of_block hg
    show (w.heap.modify g _)[g]? = _
    rw [Array.getElem?_eq_getElem (by simpa using hlt), Array.getElem_modify_self]
    rw [Array.getElem?_eq_getElem hlt] at hg
    simp only [Option.some.injEq] at hg
    rw [hg]; simp
  · rw [List.length_set] at hi
    rw [← bcells_set, List.getElem?_set, Array.getElem?_setIfInBounds]
    by_cases e : k = i
    · subst e; rw [if_pos rfl, if_pos rfl, if_pos (by omega), if_pos (by rw [bcells_length]; exact hi)]
    · rw [if_neg e, if_neg e, r i hi]
/-- The bytes as a string. -/
theorem BRow.string {P : Program} {w : World} {g cap : Nat} {t src dst : TypeId} {bs : List UInt8} (h : BRow w g cap t bs) (c : Nat) (hs : P.underlying src = some (.slice t)) (he : P.underlying t = some (.int .u8)) (hd : P.underlying dst = some .string) :
    (convert src dst (.slice (some ⟨g, 0, none⟩) bs.length c)).run P w = .ok (.string ⟨bs.toArray⟩) w := by
  obtain ⟨row, fr, hg, _, _, _, r⟩ := h
  exact (run_convert_bytes_string w src dst t _ _ _ hs he hd).trans (run_string_of w _ c bs fun i hi => by rw [add_head, cell_of_row w g i row t fr hg, r i hi])
/-- '[]byte(s)': a new row. -/
theorem run_bytes_row {P : Program} (w : World) (src dst e : TypeId) (s : ByteArray) (hs : P.underlying src = some .string) (hd : P.underlying dst = some (.slice e)) (he : P.underlying e = some (.int .u8)) :
    ∃ cap W, (convert src dst (.string s)).run P w = .ok (.slice (some ⟨w.heap.size, 0, none⟩) s.size cap) W ∧ BRow W w.heap.size cap e s.data.toList ∧ Below w.heap.size w W ∧ w.heap.size < W.heap.size := by
  have hsz : s.size ≤ grownCap w s.size 0 e := Nat.le_add_right _ _
  refine ⟨grownCap w s.size 0 e, _, run_bytes_of_string w src dst e s hs hd he, ⟨_, _, heap_alloc_new w.drew _, ?_, fun k hk => ?_, by simpa using hsz, fun i hi => ?_⟩, ((Below.refl _ _).drew).alloc (Nat.le_refl _) _, ?_⟩
  · simp [bytesRow]; omega
  · simp [bytesRow]; omega
  · have hi' : i < s.data.size := by simpa using hi
    rw [show bytesRow s (grownCap w s.size 0 e) = s.data.map (fun b => Value.int .u8 b.toNat) ++ Array.replicate (grownCap w s.size 0 e - s.size) (.int .u8 0) from rfl, Array.getElem?_append_left (by simpa using hi')]
    simp [bcells]
  · show _ < (w.heap.push _).size
    simp
end Go.Proofs.Ytmjeanbbhacnaaa

/- A row of bytes in a block, as a list of bytes: what it reads as, what it is behind a store; no program, no condition. -/
import Derived.WalkKit
import Derived.Laws.BytesString
import Derived.Laws.MakeOwn
namespace Go.Proofs.Ytmdfpgamihekmaa
open Go.RowKit
/-- The cells of a text's bytes. -/
def bcells (bs : List UInt8) : List Value := bs.map fun c => Value.int .u8 (c.toNat : Int)
theorem bcells_length (bs : List UInt8) : (bcells bs).length = bs.length := by simp [bcells]
theorem bcells_append (a b : List UInt8) : bcells (a ++ b) = bcells a ++ bcells b := by simp [bcells]
theorem bcells_set (bs : List UInt8) (k : Nat) (c : UInt8) : (bcells bs).set k (.int .u8 (c.toNat : Int)) = bcells (bs.set k c) := by simp [bcells, List.map_set]
theorem bcells_get (bs : List UInt8) (k : Nat) (h : k < bs.length) : (bcells bs)[k]? = some (.int .u8 (bs[k].toNat : Int)) := by simp [bcells, h]
theorem bcells_zero (n : Nat) : madeCells #[Value.int .u8 0] n = (bcells (List.replicate n 0)).toArray := by
  apply Array.ext_getElem?
  intro i
  by_cases h : i < n
  · simp [madeCells, bcells, h, Nat.mod_one]
  · simp [madeCells, bcells, h]
theorem push_bytes (bs : List UInt8) : ∀ s : ByteArray, (bs.map fun c => (c.toNat : Int)).foldl (fun r n => r.push (UInt8.ofNat n.toNat)) s = ⟨s.data ++ bs.toArray⟩ := by
  induction bs with
  | nil => intro s; simp
  | cons c bs ih =>
    intro s
    simp only [List.map_cons, List.foldl_cons]
    rw [ih]
    apply congrArg ByteArray.mk
    simp [ByteArray.push]
/-- A slice of bytes whose cells are known reads as a string. -/
theorem run_string_of {P : Program} (w : World) (a : Addr) (cap : Nat) (bs : List UInt8) (h : ∀ i, i < bs.length → w.cell? (a.add i) = (bcells bs)[i]?) :
    (Conv.bytesToString (.slice (some a) bs.length cap)).run P w = .ok (.string ⟨bs.toArray⟩) w := by
  have hl := run_loadCells_list (P := P) w a (bcells bs) (fun j v hv => by
    have hj : j < bs.length := by
      rcases Nat.lt_or_ge j bs.length with h' | h'
      · exact h'
      · rw [List.getElem?_eq_none (by rw [bcells_length]; exact h')] at hv; cases hv
    rw [h j hj]; exact hv)
  rw [bcells_length] at hl
  have := run_bytesToString (P := P) w a bs.length cap (bs.map fun c => (c.toNat : Int)) (by rw [hl]; simp [bcells])
  rw [this, push_bytes]
  simp
theorem add_head (g i : Nat) : (⟨g, 0, none⟩ : Addr).add i = ⟨g, i, none⟩ := by unfold Addr.add; split <;> simp_all
/-- .. the whole row of a block. -/
theorem run_string_row {P : Program} {w : World} {g : Nat} {t : TypeId} {fr : Nat × Nat} (cap : Nat) (bs : List UInt8) (hg : w.heap[g]? = some (.cells (bcells bs).toArray t fr)) :
    (Conv.bytesToString (.slice (some ⟨g, 0, none⟩) bs.length cap)).run P w = .ok (.string ⟨bs.toArray⟩) w :=
  run_string_of w _ cap bs fun i _ => by rw [add_head, cell_of_row w g i _ t fr hg]; simp
end Go.Proofs.Ytmdfpgamihekmaa

/- The walks of (*Disk).Used, Crashed, Arm, Read. The one bound: all files together have at most 2^40 bytes. -/
import Derived.Test.YtmjeanbbhacnaaaDiskIter
namespace Go.Proofs.Ytmjeanbbhacnaaa
open Go.RowKit
open Go.ChangeMaps (setBlock)
/-- How many bytes all files have. -/
def total (gs : List G) : Nat := (gs.map fun g => g.bytes.length).sum
def ftotal (l : List Fi) : Nat := (l.map fun f => f.bytes.length).sum
theorem total_abs (gs : List G) : ftotal (gs.map G.abs) = total gs := by unfold ftotal total; rw [List.map_map]; rfl
theorem total_perm {a b : List G} (h : a.Perm b) : total a = total b := (h.map _).sum_nat
theorem total_cons (g : G) (l : List G) : total (g :: l) = g.bytes.length + total l := rfl
theorem total_append (a b : List G) : total (a ++ b) = total a + total b := by simp [total]
theorem total_mem {gs : List G} {g : G} (hg : g ∈ gs) : g.bytes.length ≤ total gs := by
  induction gs with
  | nil => cases hg
  | cons x l ih =>
    rw [total_cons]
    rcases List.mem_cons.1 hg with rfl | hg
    · omega
    · have := ih hg; omega
theorem total_came (gs : List G) (seen : Array Nat) : total (came gs seen) + total (left gs seen) = total gs := by
  rw [← total_append, total_perm (came_perm gs seen)]
section
variable {w : World} {d mb : Nat} {gs : List G} {clock : Nat} {room after torn : Int} {dead : Bool}
set_option maxRecDepth 100000 in
theorem used_any (h : DiskC w d mb gs clock room after torn dead) (ht : total gs ≤ 1099511627776) :
    Calls Try.prog 40 #[.pointer (some ⟨d, 0, none⟩)] w fun e w' => e = .returned (.int .i64 (total gs : Nat)) ∧ Below w.heap.size w w' := by
  have c0 := h.cell.1
  have hrange := run_range_map (P := Try.prog) w 70 9 78 mb _ clock Try.underlying70 h.map
  have hb0 : Below w.heap.size w (w.alloc (.mapIter (some mb) clock #[] clock)) := (Below.refl _ _).alloc (Nat.le_refl _) _
  obtain ⟨W0, hW0⟩ : ∃ W0, W0 = w.alloc (.mapIter (some mb) clock #[] clock) := ⟨_, rfl⟩
  have hr0 : W0.heap[w.heap.size]? = some (.mapIter (some mb) clock #[] clock) := by rw [hW0]; exact heap_alloc_new w _
  rw [← hW0] at hrange hb0
  clear hW0
  go_enter Try.func40, Try.ntmps40
  go_wp2_with fail
  go_loopw [3] (fun nv wr => ∃ seen c0, wr.heap[w.heap.size]? = some (.mapIter (some mb) clock seen c0) ∧ clock ≤ c0 ∧ nv = .int .i64 (total (came gs seen) : Nat) ∧ Below w.heap.size w wr) (fun _ wr => (left gs (wr.iterSeen w.heap.size)).length)
  case atStart => exact ⟨#[], clock, hr0, Nat.le_refl _, by rw [came_none]; rfl, hb0⟩
  case round =>
    obtain ⟨seen, c1, hr, hc, rfl, hb⟩ := hrel
    have hd := h.below hb
    have hseen : wr.iterSeen w.heap.size = seen := by unfold World.iterSeen; rw [hr]
    clear hr0 hb0 hrange
    rcases hd.iter hr hc with ⟨hnone, hnext⟩ | ⟨g, hg, hs, W, hnext, hentry, hrW, hszW, ho1, ho2, ho3, hkW⟩
    · have hall := total_came gs seen
      rw [hnone] at hall
      have Hall := Lib.hid hall
      clear hall hnone hseen hr
      go_wp2_with fail
      go_ret
      have e := Hall.out
      exact ⟨by rw [show total (came gs seen) = total gs from e]; rfl, hb⟩
    · have hbW : Below w.heap.size w W := hb.trans ⟨ho1, ho2, ho3, Nat.le_of_eq hszW.symm, fun k hk => hkW k (Nat.ne_of_lt hk)⟩
      have hdW := h.below hbW
      have cg := (hdW.ok g hg).cell.1
      rw [G.val] at cg
      have hparts := step_parts h.apart hg hs
      have hsum : total (came gs (seen.push g.born)) = total (came gs seen) + g.bytes.length := by rw [total_perm hparts.1, total_cons]; omega
      have hle : total (came gs (seen.push g.born)) ≤ total gs := by have := total_came gs (seen.push g.born); omega
      have hseenW : W.iterSeen w.heap.size = seen.push g.born := by unfold World.iterSeen; rw [hrW]
      have hlen : (left gs (seen.push g.born)).length < (left gs seen).length := by rw [hparts.2.length_eq]; simp
      obtain ⟨a, ha⟩ : ∃ a : Option Addr, a = g.gb.map fun b => ⟨b, 0, none⟩ := ⟨_, rfl⟩
      obtain ⟨l, hl⟩ : ∃ l, l = g.bytes.length := ⟨_, rfl⟩
      obtain ⟨t, htt⟩ : ∃ t, t = total (came gs seen) := ⟨_, rfl⟩
      rw [← ha, ← hl] at cg
      rw [← hl, ← htt] at hsum
      have hbd : (t : Int) + (l : Int) ≤ 1099511627776 := by omega
      rw [← htt]
      have HH := Lib.hid (And.intro hsum (And.intro hseenW (And.intro hseen hlen)))
      clear hparts hsum hle hseenW hlen ha hl htt hseen hr
      go_wp2_with fail
      obtain ⟨q1, q2, q3, q4⟩ := HH.out
      refine ⟨⟨seen.push g.born, clock, hrW, Nat.le_refl _, by rw [q1]; go_num, hbW⟩, ?_⟩
      rw [q2, q3]; exact q4
theorem crashed_any (h : DiskC w d mb gs clock room after torn dead) : Calls Try.prog 38 #[.pointer (some ⟨d, 0, none⟩)] w fun e w' => e = .returned (.bool dead) ∧ w = w' := by
  have c4 := h.cell.2.2.2.2
  go_enter Try.func38, Try.ntmps38
  go_wp2_with fail
  go_ret
  exact ⟨rfl, rfl⟩
/-- A slice's own bytes as a string. -/
theorem RowOk.string {gb : Option Nat} {cap : Nat} {bs : List UInt8} (h : RowOk w gb cap bs) : (convert 51 9 (.slice (gb.map fun b => ⟨b, 0, none⟩) bs.length cap)).run Try.prog w = .ok (.string ⟨bs.toArray⟩) w := by
  cases gb with
  | none =>
    obtain ⟨rfl, rfl⟩ : bs = [] ∧ cap = 0 := h
    rw [run_convert_bytes_string w _ _ _ _ _ _ Try.underlying51 Try.underlying5 Try.underlying9]
    rfl
  | some b => exact BRow.string h cap Try.underlying51 Try.underlying5 Try.underlying9
/-- What Read answers. -/
def rdText (l : List Fi) (n : ByteArray) : ByteArray := match fget l n with | none => ⟨#[]⟩ | some f => ⟨f.bytes.toArray⟩
def rdThere (l : List Fi) (n : ByteArray) : Bool := (fget l n).isSome
set_option maxRecDepth 100000 in
theorem read_any (h : DiskC w d mb gs clock room after torn dead) (n : ByteArray) : Calls Try.prog 21 #[.pointer (some ⟨d, 0, none⟩), .string n] w fun e w' =>
    e = .returned (.tuple #[.string (rdText (gs.map G.abs) n), .bool (rdThere (gs.map G.abs) n)]) ∧ w = w' := by
  have c0 := h.cell.1
  rcases gs_find gs n with ⟨h1, h2⟩ | ⟨g, hg, hn, h3⟩
  · have hlook := h.look_none h2
    have e1 : rdText (gs.map G.abs) n = ⟨#[]⟩ := by unfold rdText; rw [h1]
    have e2 : rdThere (gs.map G.abs) n = false := by unfold rdThere; rw [h1]; rfl
    rw [e1, e2]
    clear e1 e2 h1
    go_enter Try.func21, Try.ntmps21
    go_wp2_with fail
    go_ret2
    exact ⟨rfl, rfl⟩
  · have hok := h.ok g hg
    have hlook := h.look hg
    rw [hn] at hlook
    have c1 := hok.cell.1
    rw [G.val] at c1
    have hconv := hok.row.string
    have e1 : rdText (gs.map G.abs) n = ⟨g.bytes.toArray⟩ := by unfold rdText; rw [h3]; rfl
    have e2 : rdThere (gs.map G.abs) n = true := by unfold rdThere; rw [h3]; rfl
    rw [e1, e2]
    obtain ⟨a, ha⟩ : ∃ a : Option Addr, a = g.gb.map fun b => ⟨b, 0, none⟩ := ⟨_, rfl⟩
    obtain ⟨l, hl⟩ : ∃ l, l = g.bytes.length := ⟨_, rfl⟩
    obtain ⟨X, hX⟩ : ∃ X : ByteArray, X = ⟨g.bytes.toArray⟩ := ⟨_, rfl⟩
    rw [← ha, ← hl] at c1 hconv
    rw [← hX] at hconv ⊢
    clear e1 e2 h3 ha hl hX hok hn
    go_enter Try.func21, Try.ntmps21
    go_wp2_with fail
    go_ret2
    exact ⟨rfl, rfl⟩
set_option maxRecDepth 100000 in
theorem arm_any (h : DiskC w d mb gs clock room after torn dead) (a t : Int) : Calls Try.prog 37 #[.pointer (some ⟨d, 0, none⟩), .int .i64 a, .int .i64 t] w fun e w' =>
    e = .returned (.tuple #[]) ∧ DiskC w' d mb gs clock room (max a (-1)) t dead ∧ Eff (foot d mb gs) w (foot d mb gs) w' := by
  have c2 := h.cell.2.2.1
  have c3 := h.cell.2.2.2.1
  have f2 := h.free 2
  have f3 := h.free 3
  have hfin : ∀ x : Int, DiskC ((w.setCell ⟨d, 2, none⟩ (.int .i64 x)).setCell ⟨d, 3, none⟩ (.int .i64 t)) d mb gs clock room x t dead ∧ Eff (foot d mb gs) w (foot d mb gs) ((w.setCell ⟨d, 2, none⟩ (.int .i64 x)).setCell ⟨d, 3, none⟩ (.int .i64 t)) := fun x =>
    ⟨(h.setAfter x).setTorn t, rfl, rfl, rfl, by simp [World.setCell], fun k _ hn => by rw [setCell_other _ (fun e => hn (.inl e)), setCell_other _ (fun e => hn (.inl e))], fun k hk => .inl hk⟩
  by_cases hm : a ≤ -1
  · have e : max a (-1) = -1 := by omega
    rw [e]
    have Hfin := Lib.hid hfin
    clear e hfin
    go_enter Try.func37, Try.ntmps37
    go_wp2_with fail
    · go_end0
      exact ⟨rfl, Hfin.out (-1)⟩
    · go_end0
      have e1 : a = -1 := by omega
      rw [e1]
      exact ⟨rfl, Hfin.out (-1)⟩
  · have e : max a (-1) = a := by omega
    rw [e]
    have Hfin := Lib.hid hfin
    clear e hfin
    go_enter Try.func37, Try.ntmps37
    go_wp2_with fail
    go_end0
    exact ⟨rfl, Hfin.out a⟩
end
end Go.Proofs.Ytmjeanbbhacnaaa

/- A range over the map of a disk's files: each file comes once, in whatever order. No condition. -/
import Derived.Test.YtmjeanbbhacnaaaDiskLay
namespace Go.Proofs.Ytmjeanbbhacnaaa
open Go.RowKit
open Go.ChangeMaps (setBlock heap_setBlock_same heap_setBlock_other)
/-- What has come, and what is still to come. -/
def came (gs : List G) (seen : Array Nat) : List G := gs.filter fun g => seen.contains g.born
def left (gs : List G) (seen : Array Nat) : List G := gs.filter fun g => !seen.contains g.born
theorem came_none (gs : List G) : came gs #[] = [] := by simp [came]
theorem came_perm (gs : List G) (seen : Array Nat) : (came gs seen ++ left gs seen).Perm gs := by
  unfold came left
  exact List.filter_append_perm _ _
theorem leftOf_left (gs : List G) (seen : Array Nat) : leftOf (gs.map G.entry).toArray seen = ((left gs seen).map G.entry).toArray := by
  unfold leftOf left
  simp [List.filter_map, Function.comp_def, G.entry]
  rfl
theorem step_parts {gs : List G} (hp : gs.Pairwise Apart) {g : G} (hg : g ∈ gs) {seen : Array Nat} (hs : seen.contains g.born = false) :
    (came gs (seen.push g.born)).Perm (g :: came gs seen) ∧ (left gs seen).Perm (g :: left gs (seen.push g.born)) := by
  induction gs with
  | nil => cases hg
  | cons x l ih =>
    rw [List.pairwise_cons] at hp
    unfold came left at ih ⊢
    simp only [List.filter_cons, Array.contains_push]
    rcases List.mem_cons.1 hg with rfl | hg
    · have hne : ∀ y ∈ l, (y.born == g.born) = false := fun y hy => by
        have := (hp.1 y hy).2.2.1
        simpa using Ne.symm this
      have e1 : (l.filter fun y => seen.contains y.born || y.born == g.born) = l.filter fun y => seen.contains y.born := List.filter_congr fun y hy => by rw [hne y hy, Bool.or_false]
      have e2 : (l.filter fun y => !(seen.contains y.born || y.born == g.born)) = l.filter fun y => !seen.contains y.born := List.filter_congr fun y hy => by rw [hne y hy, Bool.or_false]
      simp only [hs, beq_self_eq_true, Bool.false_or, if_true, Bool.not_true, Bool.false_eq_true, if_false, Bool.not_false, e1, e2]
      exact ⟨List.Perm.refl _, List.Perm.refl _⟩
    · have hne : (x.born == g.born) = false := by
        have := (hp.1 g hg).2.2.1
        simpa using this
      obtain ⟨i1, i2⟩ := ih hp.2 hg
      simp only [Array.contains_push] at i1 i2
      simp only [hne, Bool.or_false]
      cases hx : seen.contains x.born
      · simp only [Bool.not_false, if_true, Bool.false_eq_true, if_false]
        exact ⟨i1, (List.Perm.cons x i2).trans (List.Perm.swap g x _)⟩
      · simp only [Bool.not_true, if_true, Bool.false_eq_true, if_false]
        exact ⟨(List.Perm.cons x i1).trans (List.Perm.swap g x _), i2⟩
theorem setBlock_same {w : World} {b : Nat} {o : Obj} (h : w.heap[b]? = some o) (o' : Obj) : (setBlock w b o').heap[b]? = some o' := by
  have := lt_of_block h
  simp [setBlock, this]
theorem setBlock_other {w : World} {b : Nat} {o : Obj} (_h : w.heap[b]? = some o) (o' : Obj) {k : Nat} (hk : k ≠ b) : (setBlock w b o').heap[k]? = w.heap[k]? := by
  simp [setBlock, Ne.symm hk]
section
variable {w : World} {d mb : Nat} {gs : List G} {clock : Nat} {room after torn : Int} {dead : Bool}
theorem DiskC.iter (h : DiskC w d mb gs clock room after torn dead) {r : Nat} {seen : Array Nat} {c0 : Nat} (hr : w.heap[r]? = some (.mapIter (some mb) clock seen c0)) (hc : clock ≤ c0) :
    (left gs seen = [] ∧ ∀ ty, (Instr.next (.pointer (some ⟨r, 0, none⟩)) false ty).run Try.prog w = .ok (.tuple #[.bool false]) w) ∨
    ∃ g ∈ gs, seen.contains g.born = false ∧ ∃ W : World, (∀ ty, (Instr.next (.pointer (some ⟨r, 0, none⟩)) false ty).run Try.prog w = .ok (.tuple #[.bool true, .string g.name, .pointer (some ⟨g.fb, 0, none⟩)]) W) ∧
      (Instr.entry (.pointer (some ⟨r, 0, none⟩))).run Try.prog W = .ok (.tuple #[.string g.name, .pointer (some ⟨g.fb, 0, none⟩)]) W ∧
      W.heap[r]? = some (.mapIter (some mb) clock (seen.push g.born) clock) ∧ W.heap.size = w.heap.size ∧ W.os = w.os ∧ W.tape = w.tape ∧ W.output = w.output ∧ ∀ k, k ≠ r → W.heap[k]? = w.heap[k]? := by
  have hold : ∀ x ∈ (gs.map G.entry).toArray.toList, x.born < clock := fun x hx => by
    simp only [List.mem_map] at hx
    obtain ⟨g, hg, rfl⟩ := hx
    exact h.born g hg
  have hmr : mb ≠ r := fun e => by have := h.map; rw [e, hr] at this; cases this
  rcases run_next_at (P := Try.prog) w 0 r mb clock c0 seen (gs.map G.entry).toArray clock hr h.map hold hc with ⟨h0, hrun⟩ | ⟨e, he, w1, hw1, hrun⟩
  · refine .inl ⟨?_, fun _ => hrun⟩
    rw [leftOf_left] at h0
    simpa using h0
  · rw [leftOf_left] at he
    simp only [List.mem_map] at he
    obtain ⟨g, hg, rfl⟩ := he
    unfold left at hg
    rw [List.mem_filter] at hg
    have hh0 : w1.heap = w.heap := by rcases hw1 with e | e <;> rw [e]; rfl
    have hsz : w1.heap.size = w.heap.size := by rw [hh0]
    have hh : ∀ k : Nat, w1.heap[k]? = w.heap[k]? := fun k => by rw [hh0]
    have hr1 : w1.heap[r]? = some (.mapIter (some mb) clock seen c0) := by rw [hh]; exact hr
    refine .inr ⟨g, hg.1, by simpa using hg.2, _, fun _ => hrun, ?_, setBlock_same hr1 _, ?_, ?_, ?_, ?_, ?_⟩
    · have hn : ((gs.map G.entry).toArray.toList.map (·.born)).Nodup := by
        show ((gs.map G.entry).map (·.born)).Nodup
        rw [List.map_map, List.Nodup, List.pairwise_map]
        exact h.apart.imp fun hab => hab.2.2.1
      exact run_entry_at (P := Try.prog) _ r mb clock seen (gs.map G.entry).toArray clock g.entry (setBlock_same hr1 _)
        (by rw [setBlock_other hr1 _ hmr, hh]; exact h.map) (by simp only [List.mem_map]; exact ⟨g, hg.1, rfl⟩) hn
    · simp [setBlock, hsz]
    · rcases hw1 with e | e <;> rw [e] <;> rfl
    · rcases hw1 with e | e <;> rw [e] <;> rfl
    · rcases hw1 with e | e <;> rw [e] <;> rfl
    · intro k hk; rw [setBlock_other hr1 _ hk, hh]
end
end Go.Proofs.Ytmjeanbbhacnaaa

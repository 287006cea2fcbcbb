/- What the map of a disk's files answers, and what it is behind a store and a delete. No condition. -/
import Derived.Test.YtmjeanbbhacnaaaDisk
namespace Go.Proofs.Ytmjeanbbhacnaaa
open Go.RowKit
open Go.ChangeMaps (setBlock)
open Go.MapKept (IsKey run_checkKey run_findKey run_setObj_map run_keyThatStays findNow_spec heap_set)
/-- A file, as one sees it from without. -/
structure Fi where
  name : ByteArray
  bytes : List UInt8
  synced : Nat
def G.abs (g : G) : Fi := ⟨g.name, g.bytes, g.synced⟩
def fget (l : List Fi) (n : ByteArray) : Option Fi := l.find? fun x => decide (x.name = n)
def fdel (l : List Fi) (n : ByteArray) : List Fi := l.filter fun x => !decide (x.name = n)
def fput (l : List Fi) (f : Fi) : List Fi := if (fget l f.name).isSome then l.map (fun x => if x.name = f.name then f else x) else l ++ [f]
theorem fget_none {l : List Fi} {n : ByteArray} (h : fget l n = none) : ∀ x ∈ l, x.name ≠ n := by
  intro x hx e
  have := List.find?_eq_none.1 h x hx
  simp [e] at this
theorem fget_some {l : List Fi} {n : ByteArray} {f : Fi} (h : fget l n = some f) : f ∈ l ∧ f.name = n :=
  ⟨List.mem_of_find?_eq_some h, by simpa using List.find?_some h⟩
theorem erase_map {α β : Type} (f : α → β) : ∀ (l : List α) (j : Nat), (l.map f).eraseIdx j = (l.eraseIdx j).map f
  | [], _ => by simp
  | _ :: _, 0 => by simp
  | x :: l, j + 1 => by simp [erase_map f l j]
/-- A name among the ghosts. -/
theorem gs_find (gs : List G) (n : ByteArray) : (fget (gs.map G.abs) n = none ∧ ∀ g ∈ gs, g.name ≠ n) ∨ ∃ g ∈ gs, g.name = n ∧ fget (gs.map G.abs) n = some g.abs := by
  cases h : fget (gs.map G.abs) n with
  | none => exact .inl ⟨rfl, fun g hg => fget_none h g.abs (List.mem_map_of_mem hg)⟩
  | some f =>
    obtain ⟨hm, hn⟩ := fget_some h
    obtain ⟨g, hg, rfl⟩ := List.mem_map.1 hm
    exact .inr ⟨g, hg, hn, rfl⟩
theorem zero_file (w : World) : (zeroValue 78).run Try.prog w = .ok (.pointer none) w := by kernel_rfl
theorem key_of_entry (gs : List G) : ∀ x ∈ (gs.map G.entry).toArray.toList, IsKey .string x.key := by
  intro x hx
  simp only [List.mem_map] at hx
  obtain ⟨g, _, rfl⟩ := hx
  exact trivial
section
variable {w : World} {d mb : Nat} {gs : List G} {clock : Nat} {room after torn : Int} {dead : Bool} (h : DiskC w d mb gs clock room after torn dead)
include h
/-- Which entry is found. -/
theorem DiskC.found {g : G} (hg : g ∈ gs) : ∃ j, Instr.findNow .string (.string g.name) (gs.map G.entry).toArray.toList 0 = some (some (j, .pointer (some ⟨g.fb, 0, none⟩))) ∧ gs[j]? = some g := by
  rcases findNow_spec (d := .string) (k := .string g.name) trivial (gs.map G.entry).toArray.toList 0 (key_of_entry gs) with ⟨_, h2⟩ | ⟨j, e, h1, h2, h3⟩
  · exact absurd rfl (h2 g.entry (by simp only [List.mem_map]; exact ⟨g, hg, rfl⟩))
  · have h4 : (gs.map G.entry)[j]? = some e := h2
    rw [List.getElem?_map] at h4
    obtain ⟨x, hx, rfl⟩ := Option.map_eq_some_iff.1 h4
    have hn : x.name = g.name := by simpa [G.entry] using h3
    have hxg := h.name_inj (List.mem_of_getElem? hx) hg hn
    subst hxg
    exact ⟨j, by rw [h1]; simp [G.entry], hx⟩
theorem DiskC.lost {n : ByteArray} (hn : ∀ g ∈ gs, g.name ≠ n) : Instr.findNow .string (.string n) (gs.map G.entry).toArray.toList 0 = some none := by
  have _ := h
  rcases findNow_spec (d := .string) (k := .string n) trivial (gs.map G.entry).toArray.toList 0 (key_of_entry gs) with ⟨h1, _⟩ | ⟨j, e, _, h2, h3⟩
  · exact h1
  · have h4 : (gs.map G.entry)[j]? = some e := h2
    rw [List.getElem?_map] at h4
    obtain ⟨x, hx, rfl⟩ := Option.map_eq_some_iff.1 h4
    exact absurd (by simpa [G.entry] using h3) (hn x (List.mem_of_getElem? hx))
theorem DiskC.look {g : G} (hg : g ∈ gs) : (Instr.lookup 70 (.map (some mb)) (.string g.name) true).run Try.prog w = .ok (.tuple #[.pointer (some ⟨g.fb, 0, none⟩), .bool true]) w := by
  obtain ⟨j, h1, _⟩ := h.found hg
  simp [Instr.lookup, run_underlying Try.underlying70, MapKept.run_getObj_map h.map, run_checkKey Try.underlying9 (k := .string g.name) trivial, run_findKey Try.underlying9 h1, Result.andThen]
theorem DiskC.look_none {n : ByteArray} (hn : ∀ g ∈ gs, g.name ≠ n) : (Instr.lookup 70 (.map (some mb)) (.string n) true).run Try.prog w = .ok (.tuple #[.pointer none, .bool false]) w := by
  have h1 := h.lost hn
  simp [Instr.lookup, run_underlying Try.underlying70, MapKept.run_getObj_map h.map, run_checkKey Try.underlying9 (k := .string n) trivial, run_findKey Try.underlying9 h1, zero_file, Result.andThen]
theorem DiskC.put_new {n : ByteArray} (fb : Nat) (hn : ∀ g ∈ gs, g.name ≠ n) : (Instr.mapUpdate 70 (.map (some mb)) (.string n) (.pointer (some ⟨fb, 0, none⟩))).run Try.prog w =
    .ok () (setBlock w mb (.map ((gs.map G.entry).toArray.push { key := .string n, val := .pointer (some ⟨fb, 0, none⟩), born := clock }) (clock + 1))) := by
  have h1 := h.lost hn
  simp [Instr.mapUpdate, run_underlying Try.underlying70, MapKept.run_getObj_map h.map, run_checkKey Try.underlying9 (k := .string n) trivial, run_findKey Try.underlying9 h1, run_setObj_map _ h.map, Result.andThen]
  rfl
theorem DiskC.put_old {g : G} (hg : g ∈ gs) (fb : Nat) : ∃ j, gs[j]? = some g ∧ (Instr.mapUpdate 70 (.map (some mb)) (.string g.name) (.pointer (some ⟨fb, 0, none⟩))).run Try.prog w =
    .ok () (setBlock w mb (.map ((gs.map G.entry).toArray.modify j fun e => { e with key := .string g.name, val := .pointer (some ⟨fb, 0, none⟩) }) clock)) := by
  obtain ⟨j, h1, h2⟩ := h.found hg
  refine ⟨j, h2, ?_⟩
  have h3 : (gs.map G.entry).toArray[j]? = some g.entry := by simp [h2]
  simp only [Instr.mapUpdate, Sem.run_bind, run_underlying Try.underlying70, MapKept.run_getObj_map h.map, run_checkKey Try.underlying9 (k := .string g.name) trivial, run_findKey Try.underlying9 h1, Result.andThen, h3, Option.map_some, Option.getD_some, G.entry, run_keyThatStays (d := .string) (k := .string g.name) trivial, run_setObj_map _ h.map]
  rfl
theorem DiskC.del {g : G} (hg : g ∈ gs) (ty : TypeId) : ∃ j, gs[j]? = some g ∧ (Builtin.delete_ #[70, 9] ty #[.map (some mb), .string g.name]).run Try.prog w =
    .ok (.tuple #[]) (setBlock w mb (.map ((gs.map G.entry).toArray.eraseIdxIfInBounds j) clock)) := by
  obtain ⟨j, h1, h2⟩ := h.found hg
  refine ⟨j, h2, ?_⟩
  simp [Builtin.delete_, run_underlying Try.underlying70, MapKept.run_getObj_map h.map, run_checkKey Try.underlying9 (k := .string g.name) trivial, run_findKey Try.underlying9 h1, run_setObj_map _ h.map, Result.andThen]
  rfl
theorem DiskC.eraseAt {g : G} {j : Nat} (hj : gs[j]? = some g) : (gs.map G.entry).toArray.eraseIdxIfInBounds j = ((gs.eraseIdx j).map G.entry).toArray := by
  have _ := h
  have hlt : j < gs.length := (List.getElem?_eq_some_iff.1 hj).1
  unfold Array.eraseIdxIfInBounds
  rw [dif_pos (by simpa using hlt)]
  simp [erase_map]
theorem DiskC.modifyAt {g g' : G} {j : Nat} (hj : gs[j]? = some g) (hname : g'.name = g.name) (hborn : g'.born = g.born) :
    (gs.map G.entry).toArray.modify j (fun e => { e with key := .string g.name, val := .pointer (some ⟨g'.fb, 0, none⟩) }) = ((repl gs g g').map G.entry).toArray := by
  apply Array.ext_getElem?
  intro i
  rw [Array.getElem?_modify]
  unfold repl
  simp only [List.map_map, List.getElem?_toArray, List.getElem?_map, Function.comp_apply]
  by_cases e : j = i
  · subst e
    rw [if_pos rfl, hj]
    simp [G.entry, hname, hborn]
  · rw [if_neg e]
    cases hi : gs[i]? with
    | none => rfl
    | some x =>
      have hx := List.mem_of_getElem? hi
      have hg := List.mem_of_getElem? hj
      have hne : x ≠ g := fun e2 => by
        subst e2
        have hp := List.pairwise_iff_getElem.1 h.apart
        obtain ⟨hjl, hjx⟩ := List.getElem?_eq_some_iff.1 hj
        obtain ⟨hil, hix⟩ := List.getElem?_eq_some_iff.1 hi
        rcases Nat.lt_or_gt_of_ne e with hlt | hlt
        · exact (hp j i hjl hil hlt).1 (by rw [hjx, hix])
        · exact (hp i j hil hjl hlt).1 (by rw [hjx, hix])
      simp [h.repl_other hg hx hne]
theorem DiskC.abs_erase {g : G} {j : Nat} (hj : gs[j]? = some g) : (gs.eraseIdx j).map G.abs = fdel (gs.map G.abs) g.name := by
  have hp := h.apart
  clear h
  unfold fdel
  induction gs generalizing j with
  | nil => simp at hj
  | cons x l ih =>
    rw [List.pairwise_cons] at hp
    cases j with
    | zero =>
      simp only [List.getElem?_cons_zero, Option.some.injEq] at hj
      subst hj
      have hf : ∀ y ∈ l.map G.abs, (!decide (y.name = x.name)) = true := fun y hy => by
        obtain ⟨z, hz, rfl⟩ := List.mem_map.1 hy
        have := (hp.1 z hz).1
        simp [G.abs, Ne.symm this]
      simp only [List.eraseIdx_cons_zero, List.map_cons, List.filter_cons]
      rw [List.filter_eq_self.2 hf]
      simp [G.abs]
    | succ j =>
      simp only [List.getElem?_cons_succ] at hj
      have hx : x.name ≠ g.name := (hp.1 g (List.mem_of_getElem? hj)).1
      simp only [List.eraseIdx_cons_succ, List.map_cons, List.filter_cons]
      rw [if_pos (by simp [G.abs, hx]), ih hj hp.2]
theorem DiskC.abs_repl {g g' : G} (hg : g ∈ gs) (hname : g'.name = g.name) : (repl gs g g').map G.abs = fput (gs.map G.abs) g'.abs := by
  have hs : (fget (gs.map G.abs) g'.abs.name).isSome = true := by
    rcases gs_find gs g'.abs.name with ⟨_, h2⟩ | ⟨x, _, _, h3⟩
    · exact absurd hname.symm (h2 g hg)
    · rw [h3]; rfl
  unfold fput repl
  rw [if_pos hs, List.map_map, List.map_map]
  apply List.map_congr_left
  intro x hx
  show G.abs (if x.fb = g.fb then g' else x) = if x.abs.name = g'.abs.name then g'.abs else x.abs
  by_cases e : x = g
  · rw [e, if_pos rfl, if_pos (by simp [G.abs, hname])]
  · rw [h.repl_other hg hx e, if_neg (by simp only [G.abs]; rw [hname]; exact (h.apart_ne hx hg e).1)]
theorem DiskC.abs_more {g : G} (hn : ∀ x ∈ gs, x.name ≠ g.name) : (gs ++ [g]).map G.abs = fput (gs.map G.abs) g.abs := by
  have _ := h
  have hs : (fget (gs.map G.abs) g.abs.name).isSome = false := by
    rcases gs_find gs g.abs.name with ⟨h1, _⟩ | ⟨x, hx, h2, _⟩
    · rw [h1]; rfl
    · exact absurd h2 (hn x hx)
  unfold fput
  rw [if_neg (by rw [hs]; decide)]; simp
end
end Go.Proofs.Ytmjeanbbhacnaaa

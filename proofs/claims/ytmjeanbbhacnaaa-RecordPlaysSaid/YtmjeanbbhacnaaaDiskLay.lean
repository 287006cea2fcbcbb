/- The walk of (*Disk).lay: a text's bytes stand behind a file's now, or in a new file. The one bound: no file grows beyond 2^40 bytes. -/
import Derived.Test.YtmjeanbbhacnaaaDiskMap
import Derived.Test.YtmjeanbbhacnaaaAppend
import Derived.WalkLawsBesides
import Derived.Lib.Hide
import Derived.Maps.RangeWalk
namespace Go.Proofs.Ytmjeanbbhacnaaa
open Go.RowKit
open Go.ChangeMaps (setBlock heap_setBlock_same heap_setBlock_other)
/-- What a step may turn: the disk's own blocks, and new ones; what the disk has behind it is of these. -/
structure Eff (F : Nat → Prop) (w : World) (F' : Nat → Prop) (w' : World) : Prop where
  os : w'.os = w.os
  tape : w'.tape = w.tape
  output : w'.output = w.output
  size : w.heap.size ≤ w'.heap.size
  keep : ∀ k, k < w.heap.size → ¬ F k → w'.heap[k]? = w.heap[k]?
  sub : ∀ k, F' k → F k ∨ (w.heap.size ≤ k ∧ k < w'.heap.size)
theorem Eff.refl (F : Nat → Prop) (w : World) : Eff F w F w := ⟨rfl, rfl, rfl, Nat.le_refl _, fun _ _ _ => rfl, fun _ h => .inl h⟩
theorem Eff.trans {F F1 F2 : Nat → Prop} {a b c : World} (h : Eff F a F1 b) (k : Eff F1 b F2 c) : Eff F a F2 c :=
  ⟨k.os.trans h.os, k.tape.trans h.tape, k.output.trans h.output, Nat.le_trans h.size k.size,
    fun i hi hn => (k.keep i (Nat.lt_of_lt_of_le hi h.size) (fun h1 => by rcases h.sub i h1 with h2 | h2; exact hn h2; omega)).trans (h.keep i hi hn),
    fun i hi => by
      rcases k.sub i hi with h1 | h1
      · rcases h.sub i h1 with h2 | h2
        · exact .inl h2
        · exact .inr ⟨h2.1, Nat.lt_of_lt_of_le h2.2 k.size⟩
      · exact .inr ⟨Nat.le_trans h.size h1.1, h1.2⟩⟩
theorem Eff.below {F : Nat → Prop} {a b : World} (h : Below a.heap.size a b) : Eff F a F b := ⟨h.os, h.tape, h.output, h.size, fun k hk _ => h.block k hk, fun _ hk => .inl hk⟩
theorem fput_fput {l : List Fi} {n : ByteArray} {b c : List UInt8} {i j : Nat} (h : ∀ x ∈ l, x.name ≠ n) : fput (fput l ⟨n, b, i⟩) ⟨n, c, j⟩ = fput l ⟨n, c, j⟩ := by
  have h0 : fget l n = none := List.find?_eq_none.2 fun x hx => by simpa using h x hx
  have h1 : fget (l ++ [⟨n, b, i⟩]) n = some ⟨n, b, i⟩ := by
    unfold fget at h0 ⊢
    rw [List.find?_append, h0]; simp
  unfold fput
  simp only [h0, Option.isSome_none, Bool.false_eq_true, if_false, h1, Option.isSome_some, if_true, List.map_append, List.map_cons, List.map_nil]
  congr 1
  conv => rhs; rw [← List.map_id l]
  apply List.map_congr_left
  intro x hx
  rw [if_neg (h x hx)]; rfl
/-- A text's bytes behind a name's. -/
def flay (l : List Fi) (n : ByteArray) (s : List UInt8) : List Fi :=
  match fget l n with
  | none => fput l ⟨n, s, 0⟩
  | some f => fput l ⟨n, f.bytes ++ s, f.synced⟩
section
variable {w : World} {d mb : Nat} {gs : List G} {clock : Nat} {room after torn : Int} {dead : Bool}
theorem DiskC.cell (h : DiskC w d mb gs clock room after torn dead) : w.cell? ⟨d, 0, none⟩ = some (.map (some mb)) ∧ w.cell? ⟨d, 1, none⟩ = some (.int .i64 room) ∧ w.cell? ⟨d, 2, none⟩ = some (.int .i64 after) ∧
    w.cell? ⟨d, 3, none⟩ = some (.int .i64 torn) ∧ w.cell? ⟨d, 4, none⟩ = some (.bool dead) := by
  refine ⟨?_, ?_, ?_, ?_, ?_⟩ <;> rw [cell_of_row w d _ _ _ _ h.disk] <;> rfl
theorem DiskC.free (h : DiskC w d mb gs clock room after torn dead) (i : Nat) : w.frozen? ⟨d, i, none⟩ = false := frozen_of_row w d i _ _ h.disk
theorem G.ok.cell {g : G} (h : g.ok w) : w.cell? ⟨g.fb, 0, none⟩ = some g.val ∧ w.cell? ⟨g.fb, 1, none⟩ = some (.int .i64 (g.synced : Int)) := by
  refine ⟨?_, ?_⟩ <;> rw [cell_of_row w g.fb _ _ _ _ h.file] <;> rfl
theorem G.ok.free {g : G} (h : g.ok w) (i : Nat) : w.frozen? ⟨g.fb, i, none⟩ = false := frozen_of_row w g.fb i _ _ h.file
/-- The bytes of a file have grown. -/
theorem DiskC.grow (h : DiskC w d mb gs clock room after torn dead) {g : G} (hg : g ∈ gs) {W : World} {gb' : Option Nat} {cap' : Nat} {s : List UInt8} (hr : RowOk W gb' cap' (g.bytes ++ s)) (hgb : gb' = g.gb ∨ gb' = some w.heap.size) (hw : w.grownBy W g.gb) :
    DiskC (W.setCell ⟨g.fb, 0, none⟩ (.slice (gb'.map fun b => ⟨b, 0, none⟩) (g.bytes.length + s.length) cap')) d mb (repl gs g { g with gb := gb', cap := cap', bytes := g.bytes ++ s }) clock room after torn dead ∧
    Eff (foot d mb gs) w (foot d mb (repl gs g { g with gb := gb', cap := cap', bytes := g.bytes ++ s })) (W.setCell ⟨g.fb, 0, none⟩ (.slice (gb'.map fun b => ⟨b, 0, none⟩) (g.bytes.length + s.length) cap')) := by
  have hok := h.ok g hg
  have hfb : W.heap[g.fb]? = w.heap[g.fb]? := hw.block _ (lt_of_block hok.file) (fun e => h.fb_ne_gb hg hg e.symm rfl)
  have hsz : (W.setCell ⟨g.fb, 0, none⟩ (.slice (gb'.map fun b => ⟨b, 0, none⟩) (g.bytes.length + s.length) cap')).heap.size = W.heap.size := by simp [World.setCell]
  have hlt : ∀ b, gb' = some b → b < W.heap.size := fun b e => by rw [e] at hr; exact hr.lt
  have hne : ∀ b, gb' = some b → b ≠ g.fb := fun b e e2 => by
    rcases hgb with r | r
    · exact h.fb_ne_gb hg hg (r ▸ e) e2.symm
    · rw [r] at e; simp only [Option.some.injEq] at e; have := lt_of_block hok.file; omega
  refine ⟨h.turn hg rfl rfl rfl ⟨?_, ?_, ?_⟩ ?_ ?_, ⟨hw.os, hw.tape, hw.output, by rw [hsz]; exact hw.size, ?_, ?_⟩⟩
  · rw [setCell_block _ (hfb.trans hok.file)]
    simp [G.val]
  · exact hr.kept fun b e => setCell_other _ (hne b e)
  · show g.synced ≤ (g.bytes ++ s).length
    rw [List.length_append]; exact Nat.le_trans hok.sync (Nat.le_add_right _ _)
  · rcases hgb with r | r
    · exact .inl r
    · exact .inr fun b e hf => by
        have e' : gb' = some b := e
        rw [r] at e'; simp only [Option.some.injEq] at e'; have := h.lt hf; omega
  · intro k hf h1 h2
    rw [setCell_other _ h1]
    exact hw.block k (h.lt hf) (fun e => h2 e.symm)
  · intro k hk hn
    rw [setCell_other _ (fun e => hn (.inr (.inr ⟨g, hg, .inl e⟩)))]
    exact hw.block k hk (fun e => hn (.inr (.inr ⟨g, hg, .inr e.symm⟩)))
  · intro k hk
    rw [hsz]
    rcases hk with rfl | rfl | ⟨x, hx, hx2⟩
    · exact .inl (.inl rfl)
    · exact .inl (.inr (.inl rfl))
    · obtain ⟨y, hy, rfl⟩ := List.mem_map.1 hx
      by_cases e : y.fb = g.fb
      · rw [if_pos e] at hx2
        rcases hx2 with rfl | hx2
        · exact .inl (.inr (.inr ⟨g, hg, .inl rfl⟩))
        · rcases hgb with r | r
          · exact .inl (.inr (.inr ⟨g, hg, .inr (r ▸ hx2)⟩))
          · have e' : gb' = some k := hx2
            have := hlt k e'
            rw [r] at e'; simp only [Option.some.injEq] at e'
            exact .inr ⟨by omega, this⟩
      · rw [if_neg e] at hx2
        exact .inl (.inr (.inr ⟨y, hy, hx2⟩))
set_option maxRecDepth 100000 in
theorem lay_there (h : DiskC w d mb gs clock room after torn dead) {g : G} (hg : g ∈ gs) (s : ByteArray) (hb : g.bytes.length + s.size ≤ 1099511627776) :
    Calls Try.prog 47 #[.pointer (some ⟨d, 0, none⟩), .string g.name, .string s] w fun e w' => e = .returned (.tuple #[]) ∧
      ∃ gs', DiskC w' d mb gs' clock room after torn dead ∧ gs'.map G.abs = fput (gs.map G.abs) ⟨g.name, g.bytes ++ s.data.toList, g.synced⟩ ∧ Eff (foot d mb gs) w (foot d mb gs') w' := by
  have hok := h.ok g hg
  obtain ⟨gb', cap', W, hrun, hr, hgb, hgr⟩ := run_append_text w 51 g.gb g.cap g.bytes hok.row s hb
  obtain ⟨H1, H2⟩ := h.grow hg hr hgb hgr
  rw [show g.bytes.length + s.data.toList.length = g.bytes.length + s.size by rw [Array.length_toList]; rfl] at H1 H2
  have hfb : W.heap[g.fb]? = w.heap[g.fb]? := hgr.block _ (lt_of_block hok.file) (fun e => h.fb_ne_gb hg hg e.symm rfl)
  have c0 := h.cell.1
  have hlook := h.look hg
  have c1 := hok.cell.1
  rw [G.val] at c1
  have c2 : W.cell? ⟨g.fb, 0, none⟩ = some g.val := by rw [cell_of_row W g.fb _ _ _ _ (hfb.trans hok.file)]; rfl
  have c3 : W.frozen? ⟨g.fb, 0, none⟩ = false := frozen_of_row W g.fb 0 _ _ (hfb.trans hok.file)
  have HH := Lib.hid (And.intro H1 H2)
  have habs := h.abs_repl hg (g' := { g with gb := gb', cap := cap', bytes := g.bytes ++ s.data.toList }) rfl
  have Habs := Lib.hid habs
  obtain ⟨fb, hfb'⟩ : ∃ fb, fb = g.fb := ⟨_, rfl⟩
  obtain ⟨nm, hnm⟩ : ∃ n, n = g.name := ⟨_, rfl⟩
  obtain ⟨a, ha⟩ : ∃ a : Option Addr, a = g.gb.map fun b => ⟨b, 0, none⟩ := ⟨_, rfl⟩
  obtain ⟨a', ha'⟩ : ∃ a : Option Addr, a = gb'.map fun b => ⟨b, 0, none⟩ := ⟨_, rfl⟩
  obtain ⟨l, hl⟩ : ∃ l, l = g.bytes.length := ⟨_, rfl⟩
  obtain ⟨l', hl'⟩ : ∃ l', l' = g.bytes.length + s.size := ⟨_, rfl⟩
  obtain ⟨cp, hcp⟩ : ∃ c, c = g.cap := ⟨_, rfl⟩
  rw [← hfb'] at hlook c1 c2 c3
  rw [← hnm] at hlook ⊢
  rw [← ha, ← hl, ← hcp] at c1
  rw [← ha, ← hl, ← hcp, ← ha', hl, ← hl'] at hrun
  have E := Lib.hid (And.intro hfb' (And.intro ha' (And.intro hl' hnm)))
  clear hfb hok hr hgb hgr H1 H2 habs hfb' ha ha' hl' hcp hnm
  rw [← hl] at hrun
  have _El := Lib.hid hl
  have Hrun := Lib.hid hrun
  clear hl hrun
  go_enter Try.func47, Try.ntmps47
  go_wp2_with (at_builtin; refine wpList_append_run _ _ 51 9 _ _ _ W (by rfl) (by rfl) Hrun.out ?_; go_frame)
  go_end0
  obtain ⟨rfl, rfl, rfl, rfl⟩ := E.out
  exact ⟨rfl, _, HH.out.1, Habs.out, HH.out.2⟩
/-- A new file's block is laid, and its name. -/
theorem lay_new_parts (h : DiskC w d mb gs clock room after torn dead) {n : ByteArray} (hn : ∀ g ∈ gs, g.name ≠ n) :
    ∃ W1, (Instr.mapUpdate 70 (.map (some mb)) (.string n) (.pointer (some ⟨w.heap.size, 0, none⟩))).run Try.prog (w.alloc (.cells #[.slice none 0 0, .int .i64 0] 80)) = .ok () W1 ∧
      DiskC W1 d mb (gs ++ [⟨n, w.heap.size, none, 0, [], 0, clock⟩]) (clock + 1) room after torn dead ∧ Eff (foot d mb gs) w (foot d mb (gs ++ [⟨n, w.heap.size, none, 0, [], 0, clock⟩])) W1 := by
  have hb : Below w.heap.size w (w.alloc (.cells #[.slice none 0 0, .int .i64 0] 80)) := (Below.refl _ _).alloc (Nat.le_refl _) _
  have h1 := h.below hb
  have hmlt := h1.lt (.inr (.inl rfl))
  have hmw := h.lt (.inr (.inl rfl))
  have hsz : (setBlock (w.alloc (.cells #[.slice none 0 0, .int .i64 0] 80)) mb (.map ((gs.map G.entry).toArray.push { key := .string n, val := .pointer (some ⟨w.heap.size, 0, none⟩), born := clock }) (clock + 1))).heap.size = w.heap.size + 1 := by simp [setBlock]
  refine ⟨_, h1.put_new w.heap.size hn, h1.more ?_ ?_ rfl ⟨?_, ⟨rfl, rfl⟩, Nat.le_refl _⟩ hn ?_ ?_, ⟨rfl, rfl, rfl, by rw [hsz]; omega, ?_, ?_⟩⟩
  · rw [heap_setBlock_same h1.map]; simp [G.entry]
  · intro k _ hne; exact heap_setBlock_other h1.map _ hne
  · rw [heap_setBlock_other h1.map _ (Nat.ne_of_gt hmw)]; exact heap_alloc_new w _
  · intro hf; have := h.lt (k := w.heap.size) hf; omega
  · intro b e; cases e
  · intro k hk hnf
    rw [heap_setBlock_other h1.map _ (fun e => hnf (.inr (.inl e)))]
    exact hb.block k hk
  · intro k hk
    rw [hsz]
    rcases hk with rfl | rfl | ⟨x, hx, hx2⟩
    · exact .inl (.inl rfl)
    · exact .inl (.inr (.inl rfl))
    · rcases List.mem_append.1 hx with hx | hx
      · exact .inl (.inr (.inr ⟨x, hx, hx2⟩))
      · rw [List.mem_singleton.1 hx] at hx2
        rcases hx2 with rfl | hx2
        · exact .inr ⟨Nat.le_refl _, Nat.lt_succ_self _⟩
        · cases hx2
set_option maxRecDepth 100000 in
theorem lay_new (h : DiskC w d mb gs clock room after torn dead) {n : ByteArray} (hn : ∀ g ∈ gs, g.name ≠ n) (s : ByteArray) (hb : s.size ≤ 1099511627776) :
    Calls Try.prog 47 #[.pointer (some ⟨d, 0, none⟩), .string n, .string s] w fun e w' => e = .returned (.tuple #[]) ∧
      ∃ gs', DiskC w' d mb gs' (clock + 1) room after torn dead ∧ gs'.map G.abs = fput (gs.map G.abs) ⟨n, s.data.toList, 0⟩ ∧ Eff (foot d mb gs) w (foot d mb gs') w' := by
  obtain ⟨W1, hput, h1, he1⟩ := lay_new_parts h hn
  have hlook := h.look_none hn
  have c0 := h.cell.1
  have c0' : (w.alloc (.cells #[.slice none 0 0, .int .i64 0] 80)).cell? ⟨d, 0, none⟩ = some (.map (some mb)) := (h.below ((Below.refl _ _).alloc (Nat.le_refl _) _)).cell.1
  obtain ⟨g, hgd⟩ : ∃ g : G, g = ⟨n, w.heap.size, none, 0, [], 0, clock⟩ := ⟨_, rfl⟩
  rw [← hgd] at h1 he1
  have hg : g ∈ gs ++ [g] := by simp
  have hok := h1.ok g hg
  obtain ⟨gb', cap', W, hrun, hr, hgb, hgr⟩ := run_append_text W1 51 g.gb g.cap g.bytes hok.row s (by rw [hgd]; simpa using hb)
  obtain ⟨H1, H2⟩ := h1.grow hg hr hgb hgr
  have habs := h1.abs_repl hg (g' := { g with gb := gb', cap := cap', bytes := g.bytes ++ s.data.toList }) rfl
  have hab2 := h.abs_more (g := g) (by rw [hgd]; exact hn)
  have hfb : W.heap[g.fb]? = W1.heap[g.fb]? := hgr.block _ (lt_of_block hok.file) (fun e => h1.fb_ne_gb hg hg e.symm rfl)
  have c1 := hok.cell.1
  have f1 := hok.free 0
  have c2 : W.cell? ⟨g.fb, 0, none⟩ = some g.val := by rw [cell_of_row W g.fb _ _ _ _ (hfb.trans hok.file)]; rfl
  have c3 : W.frozen? ⟨g.fb, 0, none⟩ = false := frozen_of_row W g.fb 0 _ _ (hfb.trans hok.file)
  have e1 : g.fb = w.heap.size := by rw [hgd]
  have e2 : g.val = .slice none 0 0 := by rw [hgd]; rfl
  have e3 : g.gb = none ∧ g.cap = 0 ∧ g.bytes = [] ∧ g.synced = 0 ∧ g.name = n := by rw [hgd]; exact ⟨rfl, rfl, rfl, rfl, rfl⟩
  rw [e1] at c1 c2 c3 f1 H1 H2
  rw [e2] at c1 c2
  rw [e3.1, e3.2.1, e3.2.2.1] at hrun
  rw [e3.2.2.1] at H1 H2 habs
  simp only [List.length_nil, Nat.zero_add, List.nil_append, Option.map_none] at hrun H1 H2 habs
  rw [show s.data.toList.length = s.size by rw [Array.length_toList]; rfl] at H1 H2
  obtain ⟨a', ha'⟩ : ∃ a : Option Addr, a = gb'.map fun b => ⟨b, 0, none⟩ := ⟨_, rfl⟩
  rw [← ha'] at hrun H1 H2
  have HH := Lib.hid (And.intro H1 (he1.trans H2))
  have hfin : (repl (gs ++ [g]) g { g with fb := w.heap.size, gb := gb', cap := cap', bytes := s.data.toList }).map G.abs = fput (gs.map G.abs) ⟨n, s.data.toList, 0⟩ := by
    rw [← e1, habs, hab2]
    have ef : (G.abs { g with gb := gb', cap := cap', bytes := s.data.toList }) = ⟨n, s.data.toList, 0⟩ := by simp only [G.abs]; rw [e3.2.2.2.1, e3.2.2.2.2]
    have ef2 : g.abs = ⟨n, [], 0⟩ := by simp only [G.abs]; rw [e3.2.2.1, e3.2.2.2.1, e3.2.2.2.2]
    rw [ef, ef2]
    have hnn : ∀ x ∈ gs.map G.abs, x.name ≠ n := fun x hx => by obtain ⟨y, hy, rfl⟩ := List.mem_map.1 hx; exact hn y hy
    exact fput_fput hnn
  have Hfin := Lib.hid hfin
  have Hrun := Lib.hid hrun
  clear hfb hok hr hgb hgr H1 H2 habs hab2 ha' hrun hfin e1 e2 e3 hgd h1 he1 hg
  go_enter Try.func47, Try.ntmps47
  go_wp2_with (at_builtin; refine wpList_append_run _ _ 51 9 _ _ _ W (by rfl) (by rfl) Hrun.out ?_; go_frame)
  go_end0
  exact ⟨rfl, _, HH.out.1, Hfin.out, HH.out.2⟩
theorem lay_any (h : DiskC w d mb gs clock room after torn dead) (n s : ByteArray) (hb : ∀ g ∈ gs, g.bytes.length + s.size ≤ 1099511627776) (hs : s.size ≤ 1099511627776) :
    Calls Try.prog 47 #[.pointer (some ⟨d, 0, none⟩), .string n, .string s] w fun e w' => e = .returned (.tuple #[]) ∧
      ∃ gs' clock', DiskC w' d mb gs' clock' room after torn dead ∧ gs'.map G.abs = flay (gs.map G.abs) n s.data.toList ∧ Eff (foot d mb gs) w (foot d mb gs') w' := by
  rcases gs_find gs n with ⟨h1, h2⟩ | ⟨g, hg, rfl, h3⟩
  · refine (lay_new h h2 s hs).mono fun e w' ⟨he, gs', a, b, c⟩ => ⟨he, gs', _, a, ?_, c⟩
    rw [b, flay, h1]
  · refine (lay_there h hg s (hb g hg)).mono fun e w' ⟨he, gs', a, b, c⟩ => ⟨he, gs', _, a, ?_, c⟩
    rw [b, flay, h3]; rfl
end
end Go.Proofs.Ytmjeanbbhacnaaa

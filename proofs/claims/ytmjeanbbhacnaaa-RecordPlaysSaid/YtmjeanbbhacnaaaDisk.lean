/- A disk of package disk in memory, as ghosts of its files tell it; what each step of the code makes of it. No condition. -/
import Derived.Test.YtmjeanbbhacnaaaRows
import Derived.Test.YtmjeanbbhacnaaaBytes
import Derived.Maps.RangeRun
import Derived.Deep.AppendSrc
namespace Go.Proofs.Ytmjeanbbhacnaaa
open Go.RowKit
open Go.ChangeMaps (setBlock)
open Go.MapKept (Stamped IsKey)
/-- What is told of a file: its name, the blocks of the file and of its row (if it has one), the row's room, its bytes, how many are synced, the stamp of its entry. -/
structure G where
  name : ByteArray
  fb : Nat
  gb : Option Nat
  cap : Nat
  bytes : List UInt8
  synced : Nat
  born : Nat
def G.val (g : G) : Value := .slice (g.gb.map fun b => ⟨b, 0, none⟩) g.bytes.length g.cap
def G.entry (g : G) : MapEntry := { key := .string g.name, val := .pointer (some ⟨g.fb, 0, none⟩), born := g.born }
/-- A slice's own row: none, or a block. -/
def RowOk (w : World) (gb : Option Nat) (cap : Nat) (bs : List UInt8) : Prop :=
  match gb with
  | none => bs = [] ∧ cap = 0
  | some b => BRow w b cap 5 bs
structure G.ok (w : World) (g : G) : Prop where
  file : w.heap[g.fb]? = some (.cells #[g.val, .int .i64 (g.synced : Int)] 80 (0, 0))
  row : RowOk w g.gb g.cap g.bytes
  sync : g.synced ≤ g.bytes.length
/-- Two files share nothing. -/
def Apart (x y : G) : Prop := x.name ≠ y.name ∧ x.fb ≠ y.fb ∧ x.born ≠ y.born ∧ ∀ b, x.gb = some b → y.gb ≠ some b
theorem Apart.symm {x y : G} (h : Apart x y) : Apart y x := ⟨h.1.symm, h.2.1.symm, h.2.2.1.symm, fun b e e2 => h.2.2.2 b e2 e⟩
theorem apart_of {gs : List G} (h : gs.Pairwise Apart) {a b : G} (ha : a ∈ gs) (hb : b ∈ gs) : a = b ∨ Apart a b := by
  induction gs with
  | nil => cases ha
  | cons x l ih =>
    rw [List.pairwise_cons] at h
    rcases List.mem_cons.1 ha with e1 | m1 <;> rcases List.mem_cons.1 hb with e2 | m2
    · exact .inl (e1.trans e2.symm)
    · rw [e1]; exact .inr (h.1 b m2)
    · rw [e2]; exact .inr (h.1 a m1).symm
    · exact ih h.2 m1 m2
structure DiskC (w : World) (d mb : Nat) (gs : List G) (clock : Nat) (room after torn : Int) (dead : Bool) : Prop where
  disk : w.heap[d]? = some (.cells #[.map (some mb), .int .i64 room, .int .i64 after, .int .i64 torn, .bool dead] 72 (0, 0))
  map : w.heap[mb]? = some (.map (gs.map G.entry).toArray clock)
  born : ∀ g ∈ gs, g.born < clock
  apart : gs.Pairwise Apart
  ok : ∀ g ∈ gs, g.ok w
/-- The blocks of a disk. -/
def foot (d mb : Nat) (gs : List G) (k : Nat) : Prop := k = d ∨ k = mb ∨ ∃ g ∈ gs, k = g.fb ∨ g.gb = some k
theorem RowOk.kept {w w' : World} {gb : Option Nat} {cap : Nat} {bs : List UInt8} (h : RowOk w gb cap bs) (hb : ∀ b, gb = some b → w'.heap[b]? = w.heap[b]?) : RowOk w' gb cap bs := by
  cases gb with
  | none => exact h
  | some b => exact BRow.kept h (hb b rfl)
theorem G.ok.kept {w w' : World} {g : G} (h : g.ok w) (hf : w'.heap[g.fb]? = w.heap[g.fb]?) (hb : ∀ b, g.gb = some b → w'.heap[b]? = w.heap[b]?) : g.ok w' :=
  ⟨hf.trans h.file, h.row.kept hb, h.sync⟩
theorem DiskC.kept {w w' : World} {d mb : Nat} {gs : List G} {clock : Nat} {room after torn : Int} {dead : Bool} (h : DiskC w d mb gs clock room after torn dead)
    (hk : ∀ k, foot d mb gs k → w'.heap[k]? = w.heap[k]?) : DiskC w' d mb gs clock room after torn dead :=
  ⟨(hk d (.inl rfl)).trans h.disk, (hk mb (.inr (.inl rfl))).trans h.map, h.born, h.apart,
    fun g hg => (h.ok g hg).kept (hk _ (.inr (.inr ⟨g, hg, .inl rfl⟩))) (fun b e => hk b (.inr (.inr ⟨g, hg, .inr e⟩)))⟩
theorem RowOk.lt {w : World} {b cap : Nat} {bs : List UInt8} (h : RowOk w (some b) cap bs) : b < w.heap.size := BRow.lt h
theorem DiskC.lt {w : World} {d mb : Nat} {gs : List G} {clock : Nat} {room after torn : Int} {dead : Bool} (h : DiskC w d mb gs clock room after torn dead) {k : Nat} (hk : foot d mb gs k) : k < w.heap.size := by
  rcases hk with rfl | rfl | ⟨g, hg, rfl | e⟩
  · exact lt_of_block h.disk
  · exact lt_of_block h.map
  · exact lt_of_block (h.ok g hg).file
  · have := (h.ok g hg).row; rw [e] at this; exact this.lt
theorem DiskC.below {w w' : World} {d mb : Nat} {gs : List G} {clock : Nat} {room after torn : Int} {dead : Bool} (h : DiskC w d mb gs clock room after torn dead) (hb : Below w.heap.size w w') : DiskC w' d mb gs clock room after torn dead :=
  h.kept fun k hk => hb.block k (h.lt hk)
/-! ### which blocks are which -/
section
variable {w : World} {d mb : Nat} {gs : List G} {clock : Nat} {room after torn : Int} {dead : Bool} (h : DiskC w d mb gs clock room after torn dead)
include h
theorem DiskC.d_ne_mb : d ≠ mb := fun e => by have := h.disk; rw [e, h.map] at this; cases this
theorem DiskC.d_ne_fb {g : G} (hg : g ∈ gs) : d ≠ g.fb := fun e => by
  have := h.disk; rw [e, (h.ok g hg).file] at this
  simp only [Option.some.injEq, Obj.cells.injEq] at this
  exact absurd this.2.1 (by decide)
theorem DiskC.mb_ne_fb {g : G} (hg : g ∈ gs) : mb ≠ g.fb := fun e => by have := h.map; rw [e, (h.ok g hg).file] at this; cases this
theorem DiskC.d_ne_gb {g : G} (hg : g ∈ gs) {b : Nat} (e : g.gb = some b) : d ≠ b := fun e2 => by
  have hr := (h.ok g hg).row; rw [e] at hr
  obtain ⟨row, fr, hb, _⟩ := hr
  have := h.disk; rw [e2, hb] at this
  simp only [Option.some.injEq, Obj.cells.injEq] at this
  exact absurd this.2.1 (by decide)
theorem DiskC.mb_ne_gb {g : G} (hg : g ∈ gs) {b : Nat} (e : g.gb = some b) : mb ≠ b := fun e2 => by
  have hr := (h.ok g hg).row; rw [e] at hr
  obtain ⟨row, fr, hb, _⟩ := hr
  have := h.map; rw [e2, hb] at this; cases this
theorem DiskC.fb_ne_gb {g g' : G} (hg : g ∈ gs) (hg' : g' ∈ gs) {b : Nat} (e : g.gb = some b) : g'.fb ≠ b := fun e2 => by
  have hr := (h.ok g hg).row; rw [e] at hr
  obtain ⟨row, fr, hb, _⟩ := hr
  have := (h.ok g' hg').file; rw [e2, hb] at this
  simp only [Option.some.injEq, Obj.cells.injEq] at this
  exact absurd this.2.1 (by decide)
end
/-! ### stores into the disk's own block -/
theorem setCell_block {w : World} {b i : Nat} {cs : Array Value} {t : TypeId} {fr : Nat × Nat} (v : Value) (h : w.heap[b]? = some (.cells cs t fr)) : (w.setCell ⟨b, i, none⟩ v).heap[b]? = some (.cells (cs.setIfInBounds i v) t fr) := by
  have hlt := lt_of_block h
  show (w.heap.modify b _)[b]? = _
  rw [Array.getElem?_eq_getElem (by simpa using hlt), Array.getElem_modify_self]
  rw [Array.getElem?_eq_getElem hlt] at h
  simp only [Option.some.injEq] at h
  rw [h]; simp
theorem setCell_other {w : World} {b i : Nat} (v : Value) {k : Nat} (h : k ≠ b) : (w.setCell ⟨b, i, none⟩ v).heap[k]? = w.heap[k]? := Below.heap_setCell w ⟨b, i, none⟩ v k h
section
variable {w : World} {d mb : Nat} {gs : List G} {clock : Nat} {room after torn : Int} {dead : Bool} (h : DiskC w d mb gs clock room after torn dead)
include h
theorem DiskC.set {a2 t2 : Int} {dd : Bool} {i : Nat} {v : Value} (he : (#[Value.map (some mb), .int .i64 room, .int .i64 after, .int .i64 torn, .bool dead] : Array Value).setIfInBounds i v = #[.map (some mb), .int .i64 room, .int .i64 a2, .int .i64 t2, .bool dd]) :
    DiskC (w.setCell ⟨d, i, none⟩ v) d mb gs clock room a2 t2 dd :=
  ⟨by rw [setCell_block v h.disk, he], (setCell_other v h.d_ne_mb.symm).trans h.map, h.born, h.apart,
    fun g hg => (h.ok g hg).kept (setCell_other v (h.d_ne_fb hg).symm) (fun b e => setCell_other v (h.d_ne_gb hg e).symm)⟩
theorem DiskC.setAfter (a2 : Int) : DiskC (w.setCell ⟨d, 2, none⟩ (.int .i64 a2)) d mb gs clock room a2 torn dead := h.set rfl
theorem DiskC.setTorn (t2 : Int) : DiskC (w.setCell ⟨d, 3, none⟩ (.int .i64 t2)) d mb gs clock room after t2 dead := h.set rfl
theorem DiskC.setDead (b : Bool) : DiskC (w.setCell ⟨d, 4, none⟩ (.bool b)) d mb gs clock room after torn b := h.set rfl
end
/-! ### one file is another one now -/
/-- g' in the place of g. -/
def repl (gs : List G) (g g' : G) : List G := gs.map fun x => if x.fb = g.fb then g' else x
section
variable {w W : World} {d mb : Nat} {gs : List G} {clock : Nat} {room after torn : Int} {dead : Bool} (h : DiskC w d mb gs clock room after torn dead)
include h
theorem DiskC.fb_inj {a b : G} (ha : a ∈ gs) (hb : b ∈ gs) (e : a.fb = b.fb) : a = b := by
  rcases apart_of h.apart ha hb with r | r
  · exact r
  · exact absurd e r.2.1
theorem DiskC.name_inj {a b : G} (ha : a ∈ gs) (hb : b ∈ gs) (e : a.name = b.name) : a = b := by
  rcases apart_of h.apart ha hb with r | r
  · exact r
  · exact absurd e r.1
theorem DiskC.apart_ne {a b : G} (ha : a ∈ gs) (hb : b ∈ gs) (e : a ≠ b) : Apart a b := by
  rcases apart_of h.apart ha hb with r | r
  · exact absurd r e
  · exact r
theorem DiskC.repl_other {g g' : G} (hg : g ∈ gs) {x : G} (hx : x ∈ gs) (e : x ≠ g) : (if x.fb = g.fb then g' else x) = x :=
  if_neg (fun e2 => e (h.fb_inj hx hg e2))
/-- A name leads to other bytes now. -/
theorem DiskC.change {g g' : G} (hg : g ∈ gs) (hname : g'.name = g.name) (hborn : g'.born = g.born) (hfb : g'.fb = g.fb ∨ ¬ foot d mb gs g'.fb) (hgb : g'.gb = g.gb ∨ ∀ b, g'.gb = some b → ¬ foot d mb gs b) (hok : g'.ok W)
    (hm : W.heap[mb]? = some (.map ((repl gs g g').map G.entry).toArray clock)) (hk : ∀ k, foot d mb gs k → k ≠ mb → k ≠ g.fb → g.gb ≠ some k → W.heap[k]? = w.heap[k]?) :
    DiskC W d mb (repl gs g g') clock room after torn dead := by
  have r1 : ∀ x, x = g → (if x.fb = g.fb then g' else x) = g' := fun x e => by rw [e, if_pos rfl]
  have r2 : ∀ x, x ∈ gs → x ≠ g → (if x.fb = g.fb then g' else x) = x := fun x hx e => h.repl_other hg hx e
  refine ⟨?_, hm, ?_, ?_, ?_⟩
  · rw [hk d (.inl rfl) h.d_ne_mb (h.d_ne_fb hg) (fun e => h.d_ne_gb hg e rfl)]; exact h.disk
  · intro x hx
    obtain ⟨y, hy, rfl⟩ := List.mem_map.1 hx
    by_cases e : y = g
    · rw [r1 y e, hborn]; exact h.born g hg
    · rw [r2 y hy e]; exact h.born y hy
  · unfold repl
    rw [List.pairwise_map]
    refine h.apart.imp_of_mem fun {a b} ha hb hab => ?_
    have key : ∀ y, y ∈ gs → Apart g y → Apart g' y := fun y hy hgy => by
      refine ⟨by rw [hname]; exact hgy.1, ?_, by rw [hborn]; exact hgy.2.2.1, fun b e e2 => ?_⟩
      · rcases hfb with r | r
        · rw [r]; exact hgy.2.1
        · exact fun e => r (.inr (.inr ⟨y, hy, .inl e⟩))
      · rcases hgb with r | r
        · exact hgy.2.2.2 b (r ▸ e) e2
        · exact r b e (.inr (.inr ⟨y, hy, .inr e2⟩))
    by_cases ea : a = g
    · have eb : b ≠ g := fun eb => hab.1 (by rw [ea, eb])
      rw [r1 a ea, r2 b hb eb]; exact key b hb (ea ▸ hab)
    · by_cases eb : b = g
      · rw [r2 a ha ea, r1 b eb]; exact (key a ha (eb ▸ hab.symm)).symm
      · rw [r2 a ha ea, r2 b hb eb]; exact hab
  · intro x hx
    obtain ⟨y, hy, rfl⟩ := List.mem_map.1 hx
    by_cases e : y = g
    · rw [r1 y e]; exact hok
    · rw [r2 y hy e]
      have hap := h.apart_ne hy hg e
      exact (h.ok y hy).kept (hk _ (.inr (.inr ⟨y, hy, .inl rfl⟩)) (h.mb_ne_fb hy).symm hap.2.1 (fun e2 => h.fb_ne_gb hg hy e2 rfl))
        (fun b e2 => hk b (.inr (.inr ⟨y, hy, .inr e2⟩)) (h.mb_ne_gb hy e2).symm (fun e3 => h.fb_ne_gb hy hg e2 e3.symm) (fun e3 => hap.2.2.2 b e2 e3))
theorem DiskC.repl_entries {g g' : G} (hg : g ∈ gs) (hname : g'.name = g.name) (hborn : g'.born = g.born) (hfb : g'.fb = g.fb) : (repl gs g g').map G.entry = gs.map G.entry := by
  unfold repl
  rw [List.map_map]
  apply List.map_congr_left
  intro x hx
  show G.entry (if x.fb = g.fb then g' else x) = _
  by_cases e : x = g
  · rw [e, if_pos rfl]; simp [G.entry, hname, hfb, hborn]
  · rw [h.repl_other hg hx e]
/-- A file has other bytes now, in its own row, or in one that is none of the disk's. -/
theorem DiskC.turn {g g' : G} (hg : g ∈ gs) (hname : g'.name = g.name) (hborn : g'.born = g.born) (hfb : g'.fb = g.fb) (hok : g'.ok W)
    (hgb : g'.gb = g.gb ∨ ∀ b, g'.gb = some b → ¬ foot d mb gs b) (hk : ∀ k, foot d mb gs k → k ≠ g.fb → g.gb ≠ some k → W.heap[k]? = w.heap[k]?) :
    DiskC W d mb (repl gs g g') clock room after torn dead :=
  h.change hg hname hborn (.inl hfb) hgb hok (by rw [hk mb (.inr (.inl rfl)) (h.mb_ne_fb hg) (fun e => h.mb_ne_gb hg e rfl), h.repl_entries hg hname hborn hfb]; exact h.map) (fun k hf _ h2 h3 => hk k hf h2 h3)
/-- One more file. -/
theorem DiskC.more {g : G} (hm : W.heap[mb]? = some (.map ((gs ++ [g]).map G.entry).toArray (clock + 1))) (hk : ∀ k, foot d mb gs k → k ≠ mb → W.heap[k]? = w.heap[k]?) (hborn : g.born = clock) (hok : g.ok W)
    (hname : ∀ x ∈ gs, x.name ≠ g.name) (hfb : ¬ foot d mb gs g.fb) (hgb : ∀ b, g.gb = some b → ¬ foot d mb gs b) : DiskC W d mb (gs ++ [g]) (clock + 1) room after torn dead := by
  refine ⟨?_, hm, ?_, ?_, ?_⟩
  · rw [hk d (.inl rfl) h.d_ne_mb]; exact h.disk
  · intro x hx
    rcases List.mem_append.1 hx with hx | hx
    · exact Nat.lt_succ_of_lt (h.born x hx)
    · rw [List.mem_singleton.1 hx, hborn]; exact Nat.lt_succ_self _
  · rw [List.pairwise_append]
    refine ⟨h.apart, List.pairwise_singleton _ _, fun a ha b hb => ?_⟩
    rw [List.mem_singleton.1 hb]
    refine ⟨hname a ha, fun e => hfb (.inr (.inr ⟨a, ha, .inl e.symm⟩)), by rw [hborn]; exact Nat.ne_of_lt (h.born a ha), fun c e e2 => hgb c e2 (.inr (.inr ⟨a, ha, .inr e⟩))⟩
  · intro x hx
    rcases List.mem_append.1 hx with hx | hx
    · exact (h.ok x hx).kept (hk _ (.inr (.inr ⟨x, hx, .inl rfl⟩)) (h.mb_ne_fb hx).symm) (fun b e => hk b (.inr (.inr ⟨x, hx, .inr e⟩)) (h.mb_ne_gb hx e).symm)
    · rw [List.mem_singleton.1 hx]; exact hok
/-- Fewer files. -/
theorem DiskC.fewer {gs' : List G} (hs : gs'.Sublist gs) (hm : W.heap[mb]? = some (.map (gs'.map G.entry).toArray clock)) (hk : ∀ k, foot d mb gs k → k ≠ mb → W.heap[k]? = w.heap[k]?) : DiskC W d mb gs' clock room after torn dead := by
  refine ⟨?_, hm, fun g hg => h.born g (hs.subset hg), h.apart.sublist hs, fun x hx' => ?_⟩
  · rw [hk d (.inl rfl) h.d_ne_mb]; exact h.disk
  · have hx := hs.subset hx'
    exact (h.ok x hx).kept (hk _ (.inr (.inr ⟨x, hx, .inl rfl⟩)) (h.mb_ne_fb hx).symm) (fun b e => hk b (.inr (.inr ⟨x, hx, .inr e⟩)) (h.mb_ne_gb hx e).symm)
end
end Go.Proofs.Ytmjeanbbhacnaaa

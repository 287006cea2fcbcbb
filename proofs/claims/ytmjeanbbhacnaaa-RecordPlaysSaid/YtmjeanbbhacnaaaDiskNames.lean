/- The walk of Names. The bound: a disk has at most 2^40 files. -/
import Derived.Test.YtmjeanbbhacnaaaDiskLost
import Derived.Test.YtmjeanbbhacnaaaShelf
import Derived.Laws.MakeOwn
namespace Go.Proofs.Ytmjeanbbhacnaaa
open Go.RowKit
open Go.Sort (grow putRow putCells mapBlock Holds onCells heap_grow_old size_grow)
open Go.ChangeMaps (setBlock)
attribute [local go_sem ↓] Go.wp_at_zero Go.wp_at_succ
theorem info_string : (Try.prog.info? 9).map (fun i => (i.zero, i.size, i.bytes)) = some (some (.string ⟨#[]⟩), 1, 16) := by kernel_rfl
theorem run_make_names (w : World) (n : Nat) (hn : n ≤ 1099511627776) : (Instr.makeSlice 32 (.int .i64 0) (.int .i64 (n : Int))).run Try.prog w =
    .ok (.slice (some ⟨w.heap.size, 0, none⟩) 0 n) (w.alloc (.cells (madeCells #[.string ⟨#[]⟩] n) 9)) := by
  obtain ⟨i, hi, hz, hsz, hby⟩ := info_parts info_string
  have h := run_make w (P := Try.prog) 32 9 i (.string ⟨#[]⟩) Try.underlying32 hi hz .i64 .i64 0 (n : Int) (Int.le_refl _) (by omega) (by rw [hby]; omega) (by omega)
  rw [hsz, show (Value.string ⟨#[]⟩).cells = #[.string ⟨#[]⟩] from rfl] at h
  simpa using h
/-- A row of strings that a slice owns. -/
def SRow (w : World) (b cap : Nat) (ns : List ByteArray) : Prop :=
  ∃ row, w.heap[b]? = some (.cells row 9 (0, 0)) ∧ row.size = cap ∧ ns.length ≤ cap ∧ ∀ i, i < ns.length → row[i]? = ns[i]?.map Value.string
theorem SRow.kept {w w' : World} {b cap : Nat} {ns : List ByteArray} (h : SRow w b cap ns) (hb : w'.heap[b]? = w.heap[b]?) : SRow w' b cap ns := by
  obtain ⟨row, h1, r⟩ := h
  exact ⟨row, hb.trans h1, r⟩
theorem SRow.lt {w : World} {b cap : Nat} {ns : List ByteArray} (h : SRow w b cap ns) : b < w.heap.size := by
  obtain ⟨row, h1, r⟩ := h
  exact lt_of_block h1
theorem SRow.cell {w : World} {b cap : Nat} {ns : List ByteArray} (h : SRow w b cap ns) (i : Nat) (hi : i < ns.length) : w.cell? ⟨b, i, none⟩ = some (.string (ns[i])) := by
  obtain ⟨row, h1, _, _, h4⟩ := h
  rw [cell_of_row w b i row _ _ h1, h4 i hi, List.getElem?_eq_getElem hi]; rfl
/-- A name is appended, within the room. -/
theorem run_append_name (w : World) (ty : TypeId) (b cap : Nat) (ns : List ByteArray) (h : SRow w b cap ns) (hr : ns.length < cap) (s : ByteArray) :
    (Builtin.append_ #[32, 32] ty #[.slice (some ⟨b, 0, none⟩) ns.length cap, .slice (some ⟨w.heap.size, 0, none⟩) 1 1]).run Try.prog (w.alloc (.cells #[.string s] 9 (0, 0))) =
      .ok (.slice (some ⟨b, 0, none⟩) (ns.length + 1) cap) ((w.alloc (.cells #[.string s] 9 (0, 0))).setCell ⟨b, ns.length, none⟩ (.string s)) ∧
    SRow ((w.alloc (.cells #[.string s] 9 (0, 0))).setCell ⟨b, ns.length, none⟩ (.string s)) b cap (ns ++ [s]) := by
  obtain ⟨i, hi, hz, hsz, hby⟩ := info_parts info_string
  obtain ⟨row, h1, h2, h3, h4⟩ := h
  have hlt := lt_of_block h1
  have h1' : (w.alloc (.cells #[.string s] 9 (0, 0))).heap[b]? = some (.cells row 9 (0, 0)) := (heap_alloc_old _ _ hlt).trans h1
  have hsrc : Src Try.prog i.size 32 (.slice (some ⟨w.heap.size, 0, none⟩) 1 1) 1 [.string s] (w.alloc (.cells #[.string s] 9 (0, 0))) := by
    refine Src.ofSlice _ Try.underlying32 ⟨w.heap.size, 0, none⟩ 1 1 _ (by rw [hsz]; rfl) (fun j u hj => ?_) (fun u hu => ?_)
    · have hj0 : j = 0 := by
        rcases j with _ | j
        · rfl
        · simp at hj
      subst hj0
      rw [add_head, cell_of_row _ w.heap.size 0 _ _ _ (heap_alloc_new w _)]
      exact hj
    · rw [List.mem_singleton.1 hu]; rfl
  have hrun := run_append_room_src (w.alloc (.cells #[.string s] 9 (0, 0))) (P := Try.prog) 32 32 ty 9 i Try.underlying32 hi b 0 ns.length cap _ 1 _ hsrc (by omega)
    (fun j hj => by
      have hj0 : j = 0 := by simpa using hj
      rw [hsz, hj0, cell_of_row _ b _ row _ _ h1', Array.getElem?_eq_getElem (by omega)]; rfl)
    (fun j hj => by rw [hsz]; exact frozen_of_row _ b _ _ _ h1')
  rw [hsz, Nat.mul_one, Nat.zero_add] at hrun
  refine ⟨hrun, row.setIfInBounds ns.length (.string s), setCell_block _ h1', by simp [h2], by simp; omega, fun k hk => ?_⟩
  rw [List.length_append] at hk
  simp only [List.length_cons, List.length_nil] at hk
  rw [Array.getElem?_setIfInBounds]
  by_cases e : ns.length = k
  · subst e
    rw [if_pos rfl, if_pos (by omega), List.getElem?_append_right (Nat.le_refl _)]; simp
  · rw [if_neg e, h4 k (by omega), List.getElem?_append_left (by omega)]
theorem buildS (w : World) (s : ByteArray) : (Instr.buildSlice 32 1 #[(0, .string s)]).run Try.prog w = .ok (.slice (some ⟨w.heap.size, 0, none⟩) 1 1) (w.alloc (.cells #[.string s] 9 (0, 0))) := by kernel_rfl
theorem merge_perm {a b : List (List UInt8)} (h : a.Perm b) : a.mergeSort (fun x y => decide (x ≤ y)) = b.mergeSort (fun x y => decide (x ≤ y)) := by
  have ht : ∀ x y z : List UInt8, decide (x ≤ y) = true → decide (y ≤ z) = true → decide (x ≤ z) = true := fun x y z h1 h2 => decide_eq_true (List.le_trans (of_decide_eq_true h1) (of_decide_eq_true h2))
  have htot : ∀ x y : List UInt8, (decide (x ≤ y) || decide (y ≤ x)) = true := fun x y => by
    rcases List.le_total x y with e | e
    · simp [e]
    · simp [e]
  refine List.Perm.eq_of_pairwise (le := fun x y => decide (x ≤ y) = true) ?_ (List.pairwise_mergeSort ht htot _) (List.pairwise_mergeSort ht htot _) (((List.mergeSort_perm _ _).trans h).trans (List.mergeSort_perm _ _).symm)
  intro x y _ _ h1 h2
  exact List.le_antisymm (of_decide_eq_true h1) (of_decide_eq_true h2)
/-- What the sort leaves. -/
theorem SRow.sorted {w : World} {b cap : Nat} {ns : List ByteArray} (h : SRow w b cap ns) (n : Nat) (os : Array Obj) (d : List (List UInt8)) (hd : d.length = ns.length) :
    SRow (grow (putRow encStr (Sort.ahead w n) b 0 d.toArray) os) b cap (d.map fun l => ⟨l.toArray⟩) ∧ ∀ m, m ≤ b → Below m w (grow (putRow encStr (Sort.ahead w n) b 0 d.toArray) os) := by
  obtain ⟨row, h1, h2, h3, h4⟩ := h
  have hlt := lt_of_block h1
  have hsz : (putRow encStr (Sort.ahead w n) b 0 d.toArray).heap.size = w.heap.size := by simp [putRow, mapBlock, Sort.ahead]
  have hold : ∀ k, k < w.heap.size → k ≠ b → (grow (putRow encStr (Sort.ahead w n) b 0 d.toArray) os).heap[k]? = w.heap[k]? := fun k hk hne => by
    rw [heap_grow_old _ _ (by rw [hsz]; exact hk)]
    simp [putRow, mapBlock, Sort.ahead, Array.getElem?_modify, Ne.symm hne]
  have hb : (grow (putRow encStr (Sort.ahead w n) b 0 d.toArray) os).heap[b]? = some (.cells (putCells encStr 0 d.toArray row) 9 (0, 0)) := by
    rw [heap_grow_old _ _ (by rw [hsz]; exact hlt)]
    show ((Sort.ahead w n).heap.modify b _)[b]? = _
    rw [Array.getElem?_modify, if_pos rfl]
    show (w.heap[b]?).map _ = _
    rw [h1]; rfl
  refine ⟨⟨_, hb, by simp [putCells, h2], by rw [List.length_map, hd]; exact h3, fun i hi => ?_⟩, fun m hm => ⟨rfl, rfl, rfl, by rw [size_grow, hsz]; omega, fun k hk => hold k (by omega) (by omega)⟩⟩
  rw [List.length_map] at hi
  have hr : row[i]? = some (row[i]'(by omega)) := Array.getElem?_eq_getElem _
  simp only [putCells, Array.getElem?_mapIdx, hr, Option.map_some, Nat.zero_le, true_and, Nat.zero_add, Nat.sub_zero, List.size_toArray]
  rw [if_pos hi, List.getElem?_map, List.getElem?_eq_getElem hi]
  simp [hi]
section
variable {w : World} {d mb : Nat} {gs : List G} {clock : Nat} {room after torn : Int} {dead : Bool}
set_option maxRecDepth 100000 in
theorem names_any (h : DiskC w d mb gs clock room after torn dead) (hl : gs.length ≤ 1099511627776) :
    Calls Try.prog 22 #[.pointer (some ⟨d, 0, none⟩)] w fun e w' => ∃ b, ∃ ns : List ByteArray, e = .returned (.slice (some ⟨b, 0, none⟩) ns.length gs.length) ∧
      SRow w' b gs.length ns ∧ ns = (((gs.map (·.name)).map (·.data.toList)).mergeSort (fun x y => decide (x ≤ y))).map (fun l => ⟨l.toArray⟩) ∧ w.heap.size ≤ b ∧ Below w.heap.size w w' := by
  have c0 := h.cell.1
  have hlen : (Builtin.len_ #[70] 3 #[.map (some mb)]).run Try.prog w = .ok (.int .i64 (gs.length : Int)) w := by
    have := run_len_map (P := Try.prog) w 70 3 mb _ clock (by kernel_rfl) h.map
    simpa [goInt] using this
  have hmake := run_make_names w gs.length hl
  obtain ⟨W1, hW1⟩ : ∃ W1, W1 = w.alloc (.cells (madeCells #[.string ⟨#[]⟩] gs.length) 9) := ⟨_, rfl⟩
  rw [← hW1] at hmake
  have hb1 : Below w.heap.size w W1 := by rw [hW1]; exact (Below.refl _ _).alloc (Nat.le_refl _) _
  have hrow1 : SRow W1 w.heap.size gs.length [] := ⟨_, by rw [hW1]; exact heap_alloc_new w _, size_madeCells _ _, Nat.zero_le _, fun i hi => by simp at hi⟩
  have hl1 : w.heap.size < W1.heap.size := hrow1.lt
  have h1 := h.below hb1
  have c1 := h1.cell.1
  have hrange := run_range_map (P := Try.prog) W1 70 9 78 mb _ clock Try.underlying70 h1.map
  obtain ⟨W2, hW2⟩ : ∃ W2, W2 = W1.alloc (.mapIter (some mb) clock #[] clock) := ⟨_, rfl⟩
  have hr2 : W2.heap[W1.heap.size]? = some (.mapIter (some mb) clock #[] clock) := by rw [hW2]; exact heap_alloc_new W1 _
  have hb2 : Below W1.heap.size W1 W2 := by rw [hW2]; exact (Below.refl _ _).alloc (Nat.le_refl _) _
  have hrow2 := hrow1.kept (hb2.block _ hl1)
  have hbw : Below w.heap.size w W2 := hb1.trans (hb2.mono (by omega))
  rw [← hW2] at hrange
  clear hW1 hW2
  go_enter Try.func22, Try.ntmps22
  go_wp2_with fail
  go_loopw [3] (fun nv wr => ∃ seen c0, ∃ ns : List ByteArray, wr.heap[W1.heap.size]? = some (.mapIter (some mb) clock seen c0) ∧ clock ≤ c0 ∧ nv = .slice (some ⟨w.heap.size, 0, none⟩) ns.length gs.length ∧
    SRow wr w.heap.size gs.length ns ∧ ns.Perm ((came gs seen).map (·.name)) ∧ Below w.heap.size w wr) (fun _ wr => (left gs (wr.iterSeen W1.heap.size)).length)
  case atStart => exact ⟨#[], clock, [], hr2, Nat.le_refl _, rfl, hrow2, by rw [came_none]; exact List.Perm.refl _, hbw⟩
  case round =>
    obtain ⟨seen, c0, ns, hr, hc, rfl, hR, hP, hb⟩ := hrel
    have hd := h.below hb
    have hseen : wr.iterSeen W1.heap.size = seen := by unfold World.iterSeen; rw [hr]
    clear hr2 hbw hrange hb1 hb2 h1 hrow1 hrow2 hmake hlen
    rcases hd.iter hr hc with ⟨hnone, hnext⟩ | ⟨g, hg, hs, W, hnext, hentry, hrW, hszW, ho1, ho2, ho3, hkW⟩
    · have hall := came_perm gs seen
      rw [hnone, List.append_nil] at hall
      have hPn : (ns.map (·.data.toList)).Perm ((gs.map (·.name)).map (·.data.toList)) := (hP.trans (hall.map _)).map _
      have hH : Holds encStr wr w.heap.size 0 (ns.map (·.data.toList)).toArray := by
        intro j hj
        have hj' : j < ns.length := by simpa using hj
        obtain ⟨row, k1, _⟩ := id hR
        refine ⟨?_, frozen_of_row _ _ _ _ _ k1⟩
        have := SRow.cell hR j hj'
        rw [Nat.zero_add, this]
        simp [hj']
      have hlen : (ns.map (·.data.toList)).length = ns.length := List.length_map _
      have hnl : ns.length ≤ gs.length := by obtain ⟨_, _, _, k3, _⟩ := hR; exact k3
      have hsort := Try.slices_Sort_string w.heap.size 0 gs.length (ns.map (·.data.toList)) wr hH hR.lt (by rw [hlen]; omega)
      rw [hlen] at hsort
      obtain ⟨S, hS⟩ : ∃ S, S = (ns.map (·.data.toList)).mergeSort (fun x y => decide (x ≤ y)) := ⟨_, rfl⟩
      rw [← hS] at hsort
      have hSl : S.length = ns.length := by rw [hS, List.length_mergeSort, hlen]
      have hSe : S = ((gs.map (·.name)).map (·.data.toList)).mergeSort (fun x y => decide (x ≤ y)) := by
        rw [hS]
        exact merge_perm hPn
      have Hs := Lib.hid (And.intro hsort (And.intro hSl (And.intro hSe (And.intro hR hb))))
      clear hall hnone hseen hr hd hPn hH hlen hsort hSl hSe hR hb hP hS hnl
      go_wp2_with fail
      refine Hs.out.1.mono ?_
      rintro e w9 ⟨rfl, hw9⟩
      have Hw9 := Lib.hid hw9
      clear hw9
      go_wp2_with fail
      go_ret
      obtain ⟨n, os, rfl⟩ := Hw9.out
      obtain ⟨_, q2, q3, q4, q5⟩ := Hs.out
      obtain ⟨r1, r2⟩ := q4.sorted n os S q2
      refine ⟨w.heap.size, S.map (fun l => ⟨l.toArray⟩), ?_, r1, by rw [q3], Nat.le_refl _, q5.trans (r2 _ (Nat.le_refl _))⟩
      rw [List.length_map, q2]
      rfl
    · have hbW : Below w.heap.size w W := hb.trans ⟨ho1, ho2, ho3, Nat.le_of_eq hszW.symm, fun k hk => hkW k (by omega)⟩
      have hRW := hR.kept (w' := W) (hkW _ (by omega))
      have hparts := step_parts h.apart hg hs
      have hcount : ns.length < gs.length := by
        have e1 := hP.length_eq
        have e2 := (came_perm gs (seen.push g.born)).length_eq
        have e3 := hparts.1.length_eq
        simp only [List.length_map, List.length_append, List.length_cons] at e1 e2 e3
        omega
      obtain ⟨hrun, hR2⟩ := run_append_name W 32 w.heap.size gs.length ns hRW hcount g.name
      obtain ⟨W5, hW5⟩ : ∃ W5, W5 = (W.alloc (.cells #[.string g.name] 9 (0, 0))).setCell ⟨w.heap.size, ns.length, none⟩ (.string g.name) := ⟨_, rfl⟩
      rw [← hW5] at hrun hR2
      have hrW5 : W5.heap[W1.heap.size]? = some (.mapIter (some mb) clock (seen.push g.born) clock) := by
        rw [hW5, setCell_other _ (by omega), heap_alloc_old _ _ (lt_of_block hrW)]; exact hrW
      have hb5 : Below w.heap.size w W5 := by
        rw [hW5]
        exact (hbW.alloc hbW.size _).setCell (p := ⟨w.heap.size, ns.length, none⟩) (Nat.le_refl _) _
      have hs5 : W5.iterSeen W1.heap.size = seen.push g.born := by unfold World.iterSeen; rw [hrW5]
      have hlt5 : (left gs (seen.push g.born)).length < (left gs seen).length := by rw [hparts.2.length_eq]; simp
      have hP5 : (ns ++ [g.name]).Perm ((came gs (seen.push g.born)).map (·.name)) := (List.perm_append_singleton _ _).trans ((hP.cons _).trans (hparts.1.map G.name).symm)
      have Hrun := Lib.hid hrun
      have HH := Lib.hid (And.intro hrW5 (And.intro hR2 (And.intro hP5 (And.intro hb5 (And.intro hs5 (And.intro hlt5 hseen))))))
      clear hrun hR2 hP5 hb5 hs5 hlt5 hseen hrW5 hW5 hparts hRW hbW hrW hR hP hr hd hb hcount hkW ho1 ho2 ho3 hszW
      obtain ⟨l, hll⟩ : ∃ l, l = ns.length := ⟨_, rfl⟩
      rw [← hll] at Hrun ⊢
      have Hl := Lib.hid hll
      clear hll
      go_wp2_with (at_builtin; refine wpList_append_run _ _ 32 32 _ _ _ W5 (by rfl) (by rfl) Hrun.out ?_; go_frame)
      obtain ⟨q1, q2, q3, q4, q5, q6, q7⟩ := HH.out
      refine ⟨⟨seen.push g.born, clock, ns ++ [g.name], q1, Nat.le_refl _, ?_, q2, q3, q4⟩, ?_⟩
      · rw [List.length_append, ← Hl.out]; rfl
      · rw [q5, q7]; exact q6
end
end Go.Proofs.Ytmjeanbbhacnaaa

/- The walk of the law WarmMarks. No condition. -/
import Derived.Test.YtgjaennilkhejaaWKeep
namespace Go.Proofs.Ytgjaennilkhejaa
open Go.RowKit
attribute [local go_sem ↓] Go.wp_at_zero Go.wp_at_succ
/-- One of three addresses. -/
def nm (k : Nat) : ByteArray := if k = 0 then ⟨#[97]⟩ else if k = 1 then ⟨#[98]⟩ else ⟨#[99]⟩
theorem nm_inj {i j : Nat} (hi : i < 3) (hj : j < 3) (h : nm i = nm j) : i = j := by
  have : i = 0 ∨ i = 1 ∨ i = 2 := by omega
  have : j = 0 ∨ j = 1 ∨ j = 2 := by omega
  rcases ‹i = 0 ∨ i = 1 ∨ i = 2› with rfl | rfl | rfl <;> rcases ‹j = 0 ∨ j = 1 ∨ j = 2› with rfl | rfl | rfl <;> first | rfl | (exfalso; revert h; decide)
noncomputable def stepL (L : List Ch) (k : Nat) : List Ch := noteL 3 (.string (nm k)) (noteL 0 (.string (nm k)) L)
noncomputable def mkL (ks : List Nat) : List Ch := ks.foldl stepL []
theorem mkL_snoc (ks : List Nat) (k : Nat) : mkL (ks ++ [k]) = stepL (mkL ks) k := by simp [mkL]
/-- Who was touched leaves. -/
structure Both (L : List Ch) : Prop where
  same : keysOf 3 L = keysOf 0 L
  len : L.length = 2 * (keysOf 0 L).length
  str : ∀ x ∈ keysOf 0 L, StrOk x
theorem stepL_cases {L : List Ch} (h : Both L) (k : Nat) : (hasK 0 (.string (nm k)) L = true ∧ stepL L k = L) ∨ (hasK 0 (.string (nm k)) L = false ∧ stepL L k = L ++ [.key 0 (.string (nm k))] ++ [.key 3 (.string (nm k))]) := by
  unfold stepL
  by_cases h0 : Value.string (nm k) ∈ keysOf 0 L
  · exact .inl ⟨hasK_true h0, by rw [noteL_had h0, noteL_had (by rw [h.same]; exact h0)]⟩
  · refine .inr ⟨hasK_false h0, ?_⟩
    rw [noteL_new h0, noteL_new (by rw [keysOf_ne _ _ (by decide), h.same]; exact h0)]
theorem Both.step {L : List Ch} (h : Both L) (k : Nat) : Both (stepL L k) := by
  rcases stepL_cases h k with ⟨_, e⟩ | ⟨_, e⟩
  · rw [e]; exact h
  · rw [e]
    refine ⟨?_, ?_, ?_⟩
    · rw [keysOf_key, keysOf_ne _ _ (by decide), keysOf_ne _ _ (by decide), keysOf_key, h.same]
    · rw [keysOf_ne _ _ (by decide), keysOf_key]
      simp only [List.length_append, List.length_cons, List.length_nil]
      have := h.len; omega
    · intro x hx
      rw [keysOf_ne _ _ (by decide), keysOf_key] at hx
      rcases List.mem_append.1 hx with r | r
      · exact h.str x r
      · rw [List.mem_singleton.1 r]; exact ⟨_, rfl⟩
theorem both_mk (ks : List Nat) : Both (mkL ks) := by
  have : ∀ (ks : List Nat) (L : List Ch), Both L → Both (ks.foldl stepL L) := by
    intro ks
    induction ks with
    | nil => intro L h; exact h
    | cons k r ih => intro L h; exact ih _ (h.step k)
  exact this ks [] ⟨rfl, rfl, fun x hx => by simp [keysOf] at hx⟩
theorem hasK_step {L : List Ch} (k j : Nat) (hk : k < 3) (hj : j < 3) : hasK 0 (.string (nm j)) (stepL L k) = if j = k then true else hasK 0 (.string (nm j)) L := by
  unfold stepL
  rw [hasK_note_ne _ _ _ (by decide)]
  by_cases e : j = k
  · rw [if_pos e, e]; exact noteL_hasK _ _ _
  · rw [if_neg e, hasK_note_other _ (fun e2 => e (nm_inj hj hk (Value.string.inj e2)))]
theorem namesOf_mk (ks : List Nat) : (namesOf (mkL ks)).length = (mkL ks).length / 2 := by
  have h := both_mk ks
  unfold namesOf
  rw [h.same, h.len]
  have : ∀ l : List Value, (∀ x ∈ l, StrOk x) → (l.filterMap strOf).length = l.length := by
    intro l
    induction l with
    | nil => intro _; rfl
    | cons x r ih =>
      intro hs
      obtain ⟨s, rfl⟩ := hs x List.mem_cons_self
      have := ih fun y hy => hs y (List.mem_cons_of_mem _ hy)
      simp [strOf, this]
  rw [this _ h.str]; omega
theorem mkL_length (ks : List Nat) : (mkL ks).length ≤ 2 * ks.length := by
  have : ∀ (ks : List Nat) (L : List Ch), Both L → (ks.foldl stepL L).length ≤ L.length + 2 * ks.length := by
    intro ks
    induction ks with
    | nil => intro L _; simp
    | cons k r ih =>
      intro L h
      have h1 := ih _ (h.step k)
      have h2 : (stepL L k).length ≤ L.length + 2 := by
        rcases stepL_cases h k with ⟨_, e⟩ | ⟨_, e⟩ <;> rw [e] <;> simp
      simp only [List.foldl_cons, List.length_cons]
      omega
  have := this ks [] (both_mk [])
  simpa [mkL] using this
theorem mkL_prefix (ks : List Nat) (j : Nat) : mkL (ks.take j) <+: mkL ks := by
  have key : ∀ (r : List Nat) (L : List Ch), L <+: r.foldl stepL L := by
    intro r
    induction r with
    | nil => intro L; exact List.prefix_refl _
    | cons k r ih => intro L; exact (noteL_prefix _ _ (noteL_prefix _ _ (List.prefix_refl _))).trans (ih _)
  have h := key (ks.drop j) (mkL (ks.take j))
  unfold mkL at h ⊢
  rw [← List.foldl_append, List.take_append_drop] at h
  exact h
noncomputable def marksC (ks : List Nat) : List Value := (List.range ks.length).map fun i => Value.int .i64 ((mkL (ks.take i)).length : Nat)
theorem marksC_snoc (ks : List Nat) (k : Nat) : marksC (ks ++ [k]) = marksC ks ++ [.int .i64 ((mkL ks).length : Nat)] := by
  unfold marksC
  rw [List.length_append, List.length_singleton, List.range_succ, List.map_append, List.map_singleton]
  congr 1
  · apply List.map_congr_left
    intro i hi
    rw [List.mem_range] at hi
    rw [List.take_append_of_le_length (by omega)]
  · rw [List.take_append_of_le_length (Nat.le_refl _), List.take_length]
theorem marksC_get (ks : List Nat) (i : Nat) (h : i < ks.length) : (marksC ks)[i]? = some (.int .i64 ((mkL (ks.take i)).length : Nat)) := by unfold marksC; simp [h]
theorem marksC_length (ks : List Nat) : (marksC ks).length = ks.length := by simp [marksC]
noncomputable def metC (L : List Ch) : Array Value := #[.bool (hasK 0 (.string (nm 0)) L), .bool (hasK 0 (.string (nm 1)) L), .bool (hasK 0 (.string (nm 2)) L)]
theorem metC_get (L : List Ch) (k : Nat) (hk : k < 3) : (metC L)[k]? = some (.bool (hasK 0 (.string (nm k)) L)) := by
  have : k = 0 ∨ k = 1 ∨ k = 2 := by omega
  rcases this with rfl | rfl | rfl <;> rfl
theorem metC_step (L : List Ch) (k : Nat) (hk : k < 3) : (metC L).setIfInBounds k (.bool true) = metC (stepL L k) := by
  unfold metC
  rw [hasK_step k 0 hk (by omega), hasK_step k 1 hk (by omega), hasK_step k 2 hk (by omega)]
  have : k = 0 ∨ k = 1 ∨ k = 2 := by omega
  rcases this with rfl | rfl | rfl <;> rfl
theorem metC_had (L : List Ch) (k : Nat) (hk : k < 3) (h : hasK 0 (.string (nm k)) L = true) : (metC L).setIfInBounds k (.bool true) = metC L := by
  unfold metC
  have : k = 0 ∨ k = 1 ∨ k = 2 := by omega
  rcases this with rfl | rfl | rfl <;> simp [h]
set_option maxRecDepth 100000 in
set_option maxHeartbeats 3200000 in
theorem marks_walk (v : Value) (zs : List Int) (w : World) (hv : BytesArg w v zs) :
    Calls Try.prog 5 #[v] w fun e w' => e = .returned (.bool true) ∧ Below w.heap.size w w' := by
  obtain ⟨a, len, cap, rfl, hzl, hlc, hcap, hget⟩ := hv
  have hex := examples11 w
  have hnew := fun (w1 : World) (hb : Below w.heap.size w w1) => new_any hb
  have HV := Lib.hid (And.intro hzl (And.intro hget hnew))
  have Hex := Lib.hid hex
  have hlcI : (len : Int) ≤ (cap : Int) := by omega
  clear hzl hget hlc hex hnew
  go_enter Try.func5, Try.ntmps5
  go_wp2_with fail
  refine Hex.out.mono ?_
  rintro e w1 ⟨rfl, hb1⟩
  have hn := HV.out.2.2 w1 hb1
  have Hn := Lib.hid hn
  clear hn hb1 Hex
  go_wp2_with fail
  refine Hn.out.mono ?_
  rintro e w2 ⟨s, rfl, h2⟩
  have H2 := Lib.hid h2
  clear h2 Hn
  go_upto_region 8 with fail
  go_cut [0] (fun v wx => ∃ m : Nat, v = .slice a m cap ∧ (m : Int) ≤ (len : Int) ∧ (m : Int) ≤ 12 ∧ wx = w2)
  case first =>
    go_wp2_with fail
    all_goals go_meet
    exact ⟨(min (len : Int) 12).toNat, rfl, by omega, by omega, rfl⟩
  case rest =>
    obtain ⟨m, rfl, hml, hm12, rfl⟩ := hcut
    obtain ⟨W3, hW3⟩ : ∃ W3, W3 = wc.alloc (.cells #[.bool false, .bool false, .bool false] 4 (0, 0)) := ⟨_, rfl⟩
    have hb3 : Below wc.heap.size wc W3 := by rw [hW3]; exact (Below.refl _ _).alloc (Nat.le_refl _) _
    have hs3 : W3.heap.size = wc.heap.size + 1 := by rw [hW3]; exact World.size_alloc _ _
    have hmet : W3.heap[wc.heap.size]? = some (.cells (metC (mkL [])) 4 (0, 0)) := by
      rw [hW3, heap_alloc_new]
      have e : metC (mkL []) = #[.bool false, .bool false, .bool false] := by unfold metC mkL; simp [hasK_nil]
      rw [e]
    have h3 : One3 w W3 s (mkL []) (fun k => k = wc.heap.size ∨ (none : Option Nat) = some k) :=
      (H2.out.three).grown hb3.os hb3.tape hb3.output hb3.size (fun k hk _ => hb3.block k hk) (fun k hk => by
        rcases hk with rfl | e
        · exact .inr ⟨Nat.le_refl _, by omega⟩
        · cases e)
    obtain ⟨mb, hmb⟩ : ∃ mb, mb = wc.heap.size := ⟨_, rfl⟩
    have H3 := Lib.hid (And.intro hmet h3)
    have HW3 := Lib.hid hW3
    clear hmet h3 hb3 hs3 hW3
    go_wp2_with fail
    rw [← HW3.out, ← hmb]
    rw [← hmb] at H3
    clear hmb
    go_loopw [5, 7, 8] (fun mv nv i wr => ∃ (ks : List Nat) (gb : Option Nat) (cp : Nat), mv = .slice (gb.map fun b => ⟨b, 0, none⟩) ks.length cp ∧ nv = .int .i64 ((mkL ks).length : Nat) ∧ i = .int .i64 (ks.length : Nat) ∧ (ks.length : Int) ≤ (m : Int) ∧
      VRow 3 1 wr gb cp ks.length (marksC ks) ∧ wr.heap[mb]? = some (.cells (metC (mkL ks)) 4 (0, 0)) ∧ One3 w wr s (mkL ks) (fun k => k = mb ∨ gb = some k)) (fun _ _ i _ => m - (intOf i).toNat)
    case atStart => exact ⟨[], none, 0, rfl, rfl, rfl, by simp, ⟨rfl, Nat.le_refl _, rfl⟩, H3.out.1, H3.out.2⟩
    case round =>
      obtain ⟨ks, gb, cp, rfl, rfl, rfl, hjm, hR, hM, hO⟩ := hrel
      obtain ⟨j, hj⟩ : ∃ j, j = ks.length := ⟨_, rfl⟩
      obtain ⟨l, hl⟩ : ∃ l, l = (mkL ks).length := ⟨_, rfl⟩
      obtain ⟨ga, hga⟩ : ∃ ga : Option Addr, ga = gb.map fun b => ⟨b, 0, none⟩ := ⟨_, rfl⟩
      have hlb := mkL_length ks
      rw [← hj] at hjm hlb
      rw [← hl] at hlb
      rw [← hj, ← hl, ← hga]
      have hj0 : (0 : Int) ≤ (j : Int) := by omega
      have hlI : (l : Int) ≤ 24 := by omega
      have hl0 : (0 : Int) ≤ (l : Int) := by omega
      by_cases hlt : (j : Int) < (m : Int)
      · obtain ⟨b, o, ea, hbl, c0, hz0, hz1⟩ := HV.out.2.1 j (by have := HV.out.1; omega)
        have c1 := (World.cell?_of_block (a := ⟨b, o + j, none⟩) (hO.world.block b hbl)).trans c0
        obtain ⟨z, hz⟩ : ∃ z, z = zs[j]'(by have := HV.out.1; omega) := ⟨_, rfl⟩
        rw [← hz] at c1 hz0 hz1
        obtain ⟨k, hk⟩ : ∃ k : Nat, z % 3 = (k : Int) := ⟨(z % 3).toNat, by omega⟩
        have hk3 : (k : Int) < 3 := by omega
        have hk0 : (0 : Int) ≤ (k : Int) := by omega
        subst ea
        obtain ⟨X, hX⟩ : ∃ X, X = nm k := ⟨_, rfl⟩
        obtain ⟨W4, hW4⟩ : ∃ W4, W4 = wr.alloc (.cells #[.string ⟨#[97]⟩, .string ⟨#[98]⟩, .string ⟨#[99]⟩] 9 (0, 0)) := ⟨_, rfl⟩
        have cX : W4.cell? ⟨wr.heap.size, k, none⟩ = some (.string X) := by
          rw [hW4, cell_of_row _ _ _ _ _ _ (heap_alloc_new wr _), hX]
          have : k = 0 ∨ k = 1 ∨ k = 2 := by omega
          rcases this with rfl | rfl | rfl <;> rfl
        have hb4 : Below wr.heap.size wr W4 := by rw [hW4]; exact (Below.refl _ _).alloc (Nat.le_refl _) _
        have hO4 := hO.below hb4
        have hmk := mark_one hO4.one
        rw [← hl] at hmk
        have hR4 := hR.below hb4
        obtain ⟨b', cp', W5, r1, r2, r3, r4⟩ := run_append_int W4 40 gb cp ks.length (marksC ks) hR4 ((l : Nat) : Int) (by omega)
        have hb45 : Below W4.heap.size W4 (W4.alloc (.cells #[.int .i64 ((l : Nat) : Int)] 3 (0, 0))) := (Below.refl _ _).alloc (Nat.le_refl _) _
        have hs45 : (W4.alloc (.cells #[.int .i64 ((l : Nat) : Int)] 3 (0, 0))).heap.size = W4.heap.size + 1 := World.size_alloc _ _
        have hgm : gb ≠ some mb := fun e => by
          rw [e] at hR
          obtain ⟨row, hr⟩ := hR.block
          rw [hM] at hr
          simp only [Option.some.injEq, Obj.cells.injEq] at hr
          exact absurd hr.2.1 (by decide)
        have hmlt : mb < wr.heap.size := lt_of_block hM
        have hM5 : W5.heap[mb]? = some (.cells (metC (mkL ks)) 4 (0, 0)) := by
          rw [r4.block mb (by have := hb4.size; omega) (Ne.symm hgm), hb45.block _ (by have := hb4.size; omega), hb4.block _ hmlt]
          exact hM
        have hO5 : One3 w W5 s (mkL ks) (fun k => k = mb ∨ some b' = some k) := hO4.grown (r4.os.trans hb45.os) (r4.tape.trans hb45.tape) (r4.output.trans hb45.output) (by have := r4.size; omega)
          (fun k hk hnK => (r4.block k (by omega) (fun e => hnK (.inr e.symm))).trans (hb45.block k hk)) (fun k hk => by
            rcases hk with r | r
            · exact .inl (.inl r)
            · cases r
              rcases r3 with q | q
              · exact .inl (.inr q)
              · exact .inr ⟨q, r2.lt⟩)
        have had := addr_k hO5 X (by omega)
        rw [hl, ← marksC_snoc ks k] at r2
        rw [← hga, ← hj] at r1
        have Happ := Lib.hid r1
        have HM := Lib.hid (And.intro hmk had)
        have HH := Lib.hid (And.intro r2 (And.intro hM5 (And.intro hj (And.intro hl hX))))
        have HW4 := Lib.hid hW4
        clear hR hM hO hga hj hl hX hmk had hW4 hb4 hO4 hR4 r1 r2 r3 r4 hb45 hs45 hgm hmlt hM5 hO5 c0 hbl hz hlb
        have hw4 := HW4.out.symm
        go_wp2_with fail
        refine HM.out.1.mono ?_
        rintro e w4 ⟨rfl, rfl⟩
        clear hw4 cX
        go_wp2_with (at_builtin; refine wpList_append_run _ _ 40 40 _ _ _ W5 (by rfl) (by rfl) Happ.out ?_; go_frame)
        refine HM.out.2.mono ?_
        rintro e w6 ⟨rfl, hO6, hK6⟩
        have hl6 := noteL_length 0 (.string X) (mkL ks)
        have hgo := gone_k hO6 X (by have := HH.out.2.2.2.1; omega)
        have hM6 : w6.heap[mb]? = some (.cells (metC (mkL ks)) 4 (0, 0)) := (hK6 mb (.inl rfl)).trans HH.out.2.1
        have hR6 := HH.out.1.kept (w' := w6) (fun b2 e => hK6 b2 (.inr e))
        have Hgo := Lib.hid (And.intro hgo (And.intro hM6 hR6))
        clear hl6 hgo hM6 hR6 hO6 hK6 HM Happ
        have hcase := stepL_cases (both_mk ks) k
        rw [← HH.out.2.2.2.2] at hcase
        have hk3' : k < 3 := by omega
        rcases hcase with ⟨hb, hst⟩ | ⟨hb, hst⟩
        · rw [hb]
          have Hst := Lib.hid (And.intro hb (And.intro hst hk3'))
          clear hb hst hk3'
          go_wp2_with fail
          refine Hgo.out.1.mono ?_
          rintro e w7 ⟨rfl, hO7, hK7⟩
          have hM7 := (hK7 mb (.inl rfl)).trans Hgo.out.2.1
          have hR7 := Hgo.out.2.2.kept (w' := w7) (fun b2 e => hK7 b2 (.inr e))
          have hL7 : noteL 3 (.string X) (noteL 0 (.string X) (mkL ks)) = mkL ks := by rw [HH.out.2.2.2.2]; exact Hst.out.2.1
          rw [hL7] at hO7
          have cm : w7.cell? ⟨mb, k, none⟩ = some (.bool true) := by
            rw [cell_of_row _ _ _ _ _ _ hM7, metC_get _ _ Hst.out.2.2, ← HH.out.2.2.2.2, Hst.out.1]
          have fm : w7.frozen? ⟨mb, k, none⟩ = false := frozen_of_row _ _ _ _ _ hM7
          obtain ⟨W8, hW8⟩ : ∃ W8, W8 = w7.setCell ⟨mb, k, none⟩ (.bool true) := ⟨_, rfl⟩
          have hmn : gb ≠ some mb ∨ True := .inr trivial
          have hO8 : One3 w W8 s (mkL ks) (fun k => k = mb ∨ some b' = some k) := hO7.grown (by rw [hW8]; rfl) (by rw [hW8]; rfl) (by rw [hW8]; rfl) (by rw [hW8]; simp) (fun q hq hnK => by rw [hW8]; exact setCell_other _ fun e => hnK (.inl e)) (fun q hq => .inl hq)
          have hM8 : W8.heap[mb]? = some (.cells (metC (mkL ks)) 4 (0, 0)) := by
            rw [hW8, setCell_block _ hM7, metC_had _ _ Hst.out.2.2 (by rw [← HH.out.2.2.2.2]; exact Hst.out.1)]
          have hbm : some b' ≠ some mb := fun e => by
            cases e
            obtain ⟨row, hr⟩ := hR7.block
            rw [hM7] at hr
            simp only [Option.some.injEq, Obj.cells.injEq] at hr
            exact absurd hr.2.1 (by decide)
          have hR8 := hR7.kept (w' := W8) (fun b2 e => by cases e; rw [hW8]; exact setCell_other _ fun e => hbm (by rw [e]))
          have hmk8 := mark_one hO8.one
          rw [← HH.out.2.2.2.1] at hmk8
          have HF := Lib.hid (And.intro hR8 (And.intro hM8 (And.intro hO8 hmk8)))
          have HW8 := Lib.hid hW8
          clear hM7 hR7 hL7 hO7 hK7 hW8 hmn hO8 hM8 hbm hR8 hmk8 Hgo
          go_upto_region 24 with fail
          rw [← HW8.out]
          go_wp2_with fail
          refine HF.out.2.2.2.mono ?_
          rintro e w9 ⟨rfl, rfl⟩
          clear cm fm
          go_wp2_with fail
          have hstp : mkL (ks ++ [k]) = mkL ks := by rw [mkL_snoc]; exact Hst.out.2.1
          refine ⟨⟨ks ++ [k], some b', cp', ?_, ?_, ?_, ?_, ?_, ?_, ?_⟩, ?_⟩
          · rw [List.length_append, ← HH.out.2.2.1]; rfl
          · rw [hstp, ← HH.out.2.2.2.1]
          · rw [List.length_append, ← HH.out.2.2.1]; go_num
          · rw [List.length_append, ← HH.out.2.2.1]; simp; omega
          · rw [List.length_append]; exact HF.out.1
          · rw [hstp]; exact HF.out.2.1
          · rw [hstp]; exact HF.out.2.2.1
          · simp [intOf]; omega
        · rw [hb]
          have Hst := Lib.hid (And.intro hb (And.intro hst hk3'))
          clear hb hst hk3'
          go_wp2_with fail
          refine Hgo.out.1.mono ?_
          rintro e w7 ⟨rfl, hO7, hK7⟩
          have hM7 := (hK7 mb (.inl rfl)).trans Hgo.out.2.1
          have hR7 := Hgo.out.2.2.kept (w' := w7) (fun b2 e => hK7 b2 (.inr e))
          have hL7 : noteL 3 (.string X) (noteL 0 (.string X) (mkL ks)) = mkL (ks ++ [k]) := by rw [HH.out.2.2.2.2, mkL_snoc]; rfl
          rw [hL7] at hO7
          have cm : w7.cell? ⟨mb, k, none⟩ = some (.bool false) := by
            rw [cell_of_row _ _ _ _ _ _ hM7, metC_get _ _ Hst.out.2.2, ← HH.out.2.2.2.2, Hst.out.1]
          have fm : w7.frozen? ⟨mb, k, none⟩ = false := frozen_of_row _ _ _ _ _ hM7
          obtain ⟨W8, hW8⟩ : ∃ W8, W8 = w7.setCell ⟨mb, k, none⟩ (.bool true) := ⟨_, rfl⟩
          have hmn : gb ≠ some mb ∨ True := .inr trivial
          have hO8 : One3 w W8 s (mkL (ks ++ [k])) (fun k => k = mb ∨ some b' = some k) := hO7.grown (by rw [hW8]; rfl) (by rw [hW8]; rfl) (by rw [hW8]; rfl) (by rw [hW8]; simp) (fun q hq hnK => by rw [hW8]; exact setCell_other _ fun e => hnK (.inl e)) (fun q hq => .inl hq)
          have hM8 : W8.heap[mb]? = some (.cells (metC (mkL (ks ++ [k]))) 4 (0, 0)) := by
            rw [hW8, setCell_block _ hM7, metC_step _ _ Hst.out.2.2, mkL_snoc]
          have hbm : some b' ≠ some mb := fun e => by
            cases e
            obtain ⟨row, hr⟩ := hR7.block
            rw [hM7] at hr
            simp only [Option.some.injEq, Obj.cells.injEq] at hr
            exact absurd hr.2.1 (by decide)
          have hR8 := hR7.kept (w' := W8) (fun b2 e => by cases e; rw [hW8]; exact setCell_other _ fun e => hbm (by rw [e]))
          have hmk8 := mark_one hO8.one
          have hln : ((mkL (ks ++ [k])).length : Int) = (l : Int) + 2 := by
            rw [mkL_snoc, Hst.out.2.1, HH.out.2.2.2.1]
            simp only [List.length_append, List.length_cons, List.length_nil]
            omega
          rw [hln] at hmk8
          have Hln := Lib.hid hln
          clear hln
          have HF := Lib.hid (And.intro hR8 (And.intro hM8 (And.intro hO8 hmk8)))
          have HW8 := Lib.hid hW8
          clear hM7 hR7 hL7 hO7 hK7 hW8 hmn hO8 hM8 hbm hR8 hmk8 Hgo
          go_upto_region 24 with fail
          rw [← HW8.out]
          go_wp2_with fail
          refine HF.out.2.2.2.mono ?_
          rintro e w9 ⟨rfl, rfl⟩
          clear cm fm
          go_wp2_with fail
          refine ⟨⟨ks ++ [k], some b', cp', ?_, ?_, ?_, ?_, ?_, ?_, ?_⟩, ?_⟩
          · rw [List.length_append, ← HH.out.2.2.1]; rfl
          · rw [Hln.out]
          · rw [List.length_append, ← HH.out.2.2.1]; go_num
          · rw [List.length_append, ← HH.out.2.2.1]; simp; omega
          · rw [List.length_append]; exact HF.out.1
          · exact HF.out.2.1
          · exact HF.out.2.2.1
          · simp [intOf]; omega
      · obtain rfl : j = m := by omega
        have HL := Lib.hid (And.intro hR (And.intro hO (And.intro hj (And.intro hl hga))))
        clear hR hM hO hj hl hga hlb hlt hjm
        go_wp2_with fail
        go_loopw [12] (fun v wr => ∃ (q : Int) (c : Nat), v = .int .i64 q ∧ q + 1 = (c : Int) ∧ c ≤ j ∧ VRow 3 1 wr gb cp ks.length (marksC ks) ∧ One3 w wr s (mkL (ks.take c)) (fun k => k = mb ∨ gb = some k)) (fun v _ => (intOf v + 1).toNat)
        case atStart =>
          refine ⟨_, j, rfl, by omega, Nat.le_refl _, HL.out.1, ?_⟩
          rw [HL.out.2.2.1, List.take_length]
          exact HL.out.2.1
        case round =>
          obtain ⟨q, c, rfl, hqc, hcj, hR, hO⟩ := hrel
          by_cases hq : (0 : Int) ≤ q
          · obtain ⟨i, rfl⟩ : ∃ i : Nat, q = (i : Int) := ⟨q.toNat, by omega⟩
            obtain rfl : c = i + 1 := by omega
            have hik : i < ks.length := by have := HL.out.2.2.1; omega
            obtain ⟨gbb, hgb, hcell⟩ := hR.cell i (by rw [marksC_length]; exact hik)
            have hge := marksC_get ks i hik
            rw [List.getElem?_eq_getElem (by rw [marksC_length]; exact hik)] at hge
            rw [Option.some.inj hge] at hcell
            obtain ⟨mi, hmi⟩ : ∃ mi, mi = (mkL (ks.take i)).length := ⟨_, rfl⟩
            rw [← hmi] at hcell
            have hpre : mkL (ks.take i) <+: mkL (ks.take (i + 1)) := by
              have := mkL_prefix (ks.take (i + 1)) i
              rwa [List.take_take, Nat.min_eq_left (by omega)] at this
            have hlen1 := mkL_length (ks.take (i + 1))
            rw [List.length_take] at hlen1
            have hbk := back_k hO mi (by rw [hmi]; exact hpre.length_le) (by omega)
            have htk : (mkL (ks.take (i + 1))).take mi = mkL (ks.take i) := by rw [hmi]; exact take_prefix hpre
            rw [htk] at hbk
            have hmi24 : (mi : Int) ≤ 24 := by
              have := mkL_length (ks.take i)
              rw [List.length_take, ← hmi] at this
              omega
            have hmi0 : (0 : Int) ≤ (mi : Int) := by omega
            obtain rfl : ga = some ⟨gbb, 0, none⟩ := by rw [HL.out.2.2.2.2, hgb]; rfl
            have hmk : ∀ wx, One3 w wx s (mkL (ks.take i)) (fun k => k = mb ∨ gb = some k) → Calls Try.prog 18 #[.pointer (some ⟨s, 0, none⟩)] wx fun e w' => e = .returned (.int .i64 (mi : Nat)) ∧ wx = w' := fun wx hx => by rw [hmi]; exact mark_one hx.one
            have hlv : ∀ wx, One3 w wx s (mkL (ks.take i)) (fun k => k = mb ∨ gb = some k) → Calls Try.prog 21 #[.pointer (some ⟨s, 0, none⟩)] wx fun e w' => ∃ (b cap : Nat), e = .returned (.slice (some ⟨b, 0, none⟩) (mi / 2) cap) ∧ Below wx.heap.size wx w' := fun wx hx => by
              refine (leaving_one hx.one (by have := mkL_length (ks.take i); rw [List.length_take] at this; omega)).mono ?_
              rintro e w' ⟨b, cap, ns, rfl, _, hns, _, hb⟩
              refine ⟨b, cap, ?_, hb⟩
              rw [hns, sortN_length, namesOf_mk, ← hmi]
            have hS1 : wr.drew.cell? ⟨gbb, i, none⟩ = some (.int .i64 (mi : Nat)) := hcell
            have hc : ∀ wx : World, (∀ k : Nat, (k = mb ∨ gb = some k) → wx.heap[k]? = wr.heap[k]?) → wx.cell? ⟨gbb, i, none⟩ = some (.int .i64 (mi : Nat)) := fun wx hk => (World.cell?_of_block (a := ⟨gbb, i, none⟩) (hk gbb (.inr hgb))).trans hcell
            have hOd := back_k (hO.below ((Below.refl wr.heap.size wr).drew)) mi (by rw [hmi]; exact hpre.length_le) (by omega)
            rw [htk] at hOd
            have hc2 : ∀ wx wy : World, wx.cell? ⟨gbb, i, none⟩ = some (.int .i64 (mi : Nat)) → Below wx.heap.size wx wy → wy.cell? ⟨gbb, i, none⟩ = some (.int .i64 (mi : Nat)) := fun wx wy h1 h2 => (World.cell?_of_block (a := ⟨gbb, i, none⟩) (h2.block gbb (World.block_lt_of_cell? wx ⟨gbb, i, none⟩ h1))).trans h1
            have Hc2 := Lib.hid hc2
            have HB := Lib.hid (And.intro hOd (And.intro hmk (And.intro hlv (And.intro hc hR))))
            have hwr : IntKind.i64.wrap ((mi : Int) / 2) = (mi : Int) / 2 := IntWalk.i64_in _ (by omega)
            have hi0 : (0 : Int) ≤ (i : Int) := by omega
            have hij : (i : Int) < (j : Int) := by omega
            clear hR hO hgb hge hmi hpre hlen1 hbk htk hmk hlv hc hc2 hik hOd
            go_upto_region 29 with fail
            go_cut [105] (fun v wx => v = .bool false ∧ VRow 3 1 wx gb cp ks.length (marksC ks) ∧ One3 w wx s (mkL (ks.take i)) (fun k => k = mb ∨ gb = some k))
            case first =>
              go_region_held3 (fun w' => w'.cell? ⟨gbb, i, none⟩ = some (.int .i64 (mi : Nat))) (first | assumption | exact hS1 | exact HB.out.2.2.2.1 _ hK7 | exact Hc2.out _ _ (by assumption) hb8) (first | (go_at_call 20; ((with_reducible refine (HB.out.1).mono ?_); (rintro e w7 ⟨rfl, hO7, hK7⟩))) | (go_at_call 18; ((with_reducible refine (HB.out.2.1 _ hO7).mono ?_); (rintro e w8 ⟨rfl, rfl⟩))) | (go_at_call 21; ((with_reducible refine (HB.out.2.2.1 _ hO7).mono ?_); (rintro e w8 ⟨lb, lc, rfl, hb8⟩))))
              all_goals go_wp2_with fail
              all_goals go_meet
              exact ⟨rfl, (HB.out.2.2.2.2.kept (w' := w7) fun b e => hK7 b (.inr e)).below hb8, hO7.below hb8⟩
            case rest =>
              obtain ⟨rfl, hR, hO⟩ := hcut
              go_wp2_with fail
              exact ⟨⟨(i : Int) - 1, i, rfl, by omega, by omega, hR, hO⟩, by simp [intOf] <;> omega⟩
          · have hc0 : c = 0 := by omega
            subst hc0
            have hmk := mark_one hO.one
            rw [show (mkL (ks.take 0)).length = 0 by rw [List.take_zero]; rfl] at hmk
            have HM := Lib.hid (And.intro hmk hO.world)
            clear hmk hO hR
            go_wp2_with fail
            refine HM.out.1.mono ?_
            rintro e w9 ⟨rfl, rfl⟩
            go_wp2_with fail
            go_ret
            exact ⟨rfl, HM.out.2⟩
end Go.Proofs.Ytgjaennilkhejaa

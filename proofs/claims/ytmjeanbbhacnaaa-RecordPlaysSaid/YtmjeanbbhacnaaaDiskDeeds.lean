/- The walks of Delete and Rename. No condition. -/
import Derived.Test.YtmjeanbbhacnaaaDiskWith
namespace Go.Proofs.Ytmjeanbbhacnaaa
open Go.RowKit
open Go.ChangeMaps (setBlock)
attribute [local go_sem ↓] Go.wp_at_zero Go.wp_at_succ
theorem boxes2 (w : World) (x y : Obj) (W : World) (hW : W = (w.alloc x).alloc y) : W.heap[w.heap.size]? = some x ∧ W.heap[w.heap.size + 1]? = some y ∧ Below w.heap.size w W := by
  have s1 : (w.alloc x).heap.size = w.heap.size + 1 := World.size_alloc _ _
  have e2 := heap_alloc_new (w.alloc x) y
  rw [s1] at e2
  subst hW
  refine ⟨?_, e2, ?_⟩
  · rw [heap_alloc_old _ _ (by omega), heap_alloc_new]
  · exact ((Below.refl _ _).alloc (Nat.le_refl _) _).alloc (by omega) _
section
variable {w : World} {d mb : Nat} {gs : List G} {clock : Nat} {room after torn : Int} {dead : Bool}
/-- The world behind a delete. -/
theorem DiskC.deleted (hd : DiskC w d mb gs clock room after torn dead) {g : G} (hg : g ∈ gs) : ∃ W gs1, (Builtin.delete_ #[70, 9] 0 #[.map (some mb), .string g.name]).run Try.prog w = .ok (.tuple #[]) W ∧
    DiskC W d mb gs1 clock room after torn dead ∧ gs1.map G.abs = fdel (gs.map G.abs) g.name ∧ gs1.Sublist gs ∧ (∀ x ∈ gs1, x ≠ g) ∧ Eff (foot d mb gs) w (foot d mb gs1) W ∧ ∀ k, k ≠ mb → W.heap[k]? = w.heap[k]? := by
  obtain ⟨j, hj, hdel⟩ := hd.del hg 0
  rw [hd.eraseAt hj] at hdel
  have hk : ∀ k, k ≠ mb → (setBlock w mb (.map ((gs.eraseIdx j).map G.entry).toArray clock)).heap[k]? = w.heap[k]? := fun k hk => setBlock_other hd.map _ hk
  have hs : (gs.eraseIdx j).Sublist gs := List.eraseIdx_sublist _ _
  refine ⟨_, gs.eraseIdx j, hdel, hd.fewer hs (setBlock_same hd.map _) (fun k _ h => hk k h), hd.abs_erase hj, hs, ?_, ⟨rfl, rfl, rfl, by simp [setBlock], fun k _ h => hk k (fun e => h (.inr (.inl e))), ?_⟩, hk⟩
  · intro x hx e
    subst e
    have h1 := hd.abs_erase hj
    have h2 : x.abs ∈ fdel (gs.map G.abs) x.name := by rw [← h1]; exact List.mem_map_of_mem hx
    unfold fdel at h2
    rw [List.mem_filter] at h2
    simp [G.abs] at h2
  · rintro k (rfl | rfl | ⟨x, hx, hxe⟩)
    · exact .inl (.inl rfl)
    · exact .inl (.inr (.inl rfl))
    · exact .inl (.inr (.inr ⟨x, hs.subset hx, hxe⟩))
set_option maxRecDepth 100000 in
theorem do_delete (hd : DiskC w d mb gs clock room after torn dead) {g : G} (hg : g ∈ gs) (b1 b2 : Nat)
    (c1 : w.cell? ⟨b1, 0, none⟩ = some (.pointer (some ⟨d, 0, none⟩))) (c2 : w.cell? ⟨b2, 0, none⟩ = some (.string g.name)) :
    Calls Try.prog 51 #[.pointer (some ⟨g.fb, 0, none⟩), .pointer (some ⟨b1, 0, none⟩), .pointer (some ⟨b2, 0, none⟩)] w fun e w' =>
    e = .returned (.tuple #[]) ∧ Left w d mb gs room after torn dead (fdel (gs.map G.abs) g.name) w' := by
  have hd2 : DiskC w.drew d mb gs clock room after torn dead := hd.kept fun _ _ => rfl
  obtain ⟨W, gs1, hdel, h1, h2, h3, h4, h5, _⟩ := hd2.deleted hg
  have hL : Left w d mb gs room after torn dead (fdel (gs.map G.abs) g.name) W := ⟨gs1, clock, h1, h2, h5.os, h5.tape, h5.output, h5.size, h5.keep, h5.sub⟩
  have HL := Lib.hid hL
  have d0 := hd.cell.1
  obtain ⟨n, hn⟩ : ∃ n, n = g.name := ⟨_, rfl⟩
  rw [← hn] at c2 hdel HL ⊢
  clear hL h1 h2 h3 h4 h5 hn hd2
  go_enter Try.func51, Try.ntmps51
  go_wp2_with fail
  go_region
  go_wp2_with fail
  go_end0
  exact ⟨rfl, HL.out⟩
set_option maxRecDepth 100000 in
theorem delete_any (hd : DiskC w d mb gs clock room after torn dead) (n : ByteArray) (ha : after ≤ 9223372036854775807) :
    Calls Try.prog 19 #[.pointer (some ⟨d, 0, none⟩), .string n] w fun e w' => ∃ x, e = .returned (.int .i64 x) ∧
      x = (St.deed ⟨gs.map G.abs, room, after, torn, dead⟩ n (fun l => fdel l n)).2 ∧ Leaves w d mb gs (St.deed ⟨gs.map G.abs, room, after, torn, dead⟩ n (fun l => fdel l n)).1 w' := by
  obtain ⟨W2, hW2⟩ : ∃ W2, W2 = (w.alloc (.cells #[.pointer (some ⟨d, 0, none⟩)] 23 (0, 0))).alloc (.cells #[.string n] 9 (0, 0)) := ⟨_, rfl⟩
  obtain ⟨o1, o2, hb⟩ := boxes2 w _ _ _ hW2
  have hd' := hd.below hb
  have n1 := hd'.not_foot o1 (by decide) (by decide) (by decide)
  have n2 := hd'.not_foot o2 (by decide) (by decide) (by decide)
  have c1 := cell_of_one o1
  have c2 := cell_of_one o2
  have hw := with_any hd' n ha 51 #[.pointer (some ⟨w.heap.size, 0, none⟩), .pointer (some ⟨w.heap.size + 1, 0, none⟩)] call51 (fun l => fdel l n) (fun g hg hn W a2 hW hk => by
    subst hn
    exact do_delete hW hg _ _ (cell_of_one ((hk _ (lt_of_block o1) n1).trans o1)) (cell_of_one ((hk _ (lt_of_block o2) n2).trans o2)))
  have Hw := Lib.hid hw
  obtain ⟨res, hres⟩ : ∃ r, r = St.deed ⟨gs.map G.abs, room, after, torn, dead⟩ n (fun l => fdel l n) := ⟨_, rfl⟩
  have hlift : ∀ w', Leaves W2 d mb gs res.1 w' → Leaves w d mb gs res.1 w' := fun w' ⟨g2, c2, x1, x2, x3⟩ => ⟨g2, c2, x1, x2, (Eff.below hb).trans x3⟩
  have Hl := Lib.hid hlift
  rw [← hres] at Hw ⊢
  have hmf : ∀ fn first cap w, (Instr.makeFunc fn first cap).run Try.prog w = .ok (.func fn first cap) w := fun _ _ _ _ => rfl
  have HW2 := Lib.hid hW2
  clear hw hd hd' hres hlift o1 o2 n1 n2 hb hW2
  go_enter Try.func19, Try.ntmps19
  go_upto_region 1 with fail
  rw [← HW2.out]
  go_wp2_with fail
  refine Hw.out.mono ?_
  rintro e w1 ⟨x, rfl, hR⟩
  have HR := Lib.hid hR
  clear hR
  go_wp2_with fail
  go_ret
  obtain ⟨r1, r2⟩ := HR.out
  exact ⟨x, rfl, r1, Hl.out _ r2⟩
/-! ### Rename -/
def frename (a b : ByteArray) (l : List Fi) : List Fi := match fget l a with | none => l | some f => fput (fdel l a) { f with name := b }
theorem frename_some {l : List Fi} {a b : ByteArray} {f : Fi} (h : fget l a = some f) : frename a b l = fput (fdel l a) { f with name := b } := by unfold frename; rw [h]
/-- The world behind the second half of a rename. -/
theorem DiskC.renamed {w0 : World} {gs0 : List G} (hd0 : DiskC w0 d mb gs0 clock room after torn dead) {g : G} (hg : g ∈ gs0) (hd : DiskC w d mb gs clock room after torn dead) (hs : gs.Sublist gs0) (hne : ∀ x ∈ gs, x ≠ g)
    (hk : ∀ k, k ≠ mb → w.heap[k]? = w0.heap[k]?) (b : ByteArray) :
    ∃ W gs1 ck, (Instr.mapUpdate 70 (.map (some mb)) (.string b) (.pointer (some ⟨g.fb, 0, none⟩))).run Try.prog w = .ok () W ∧ DiskC W d mb gs1 ck room after torn dead ∧
      gs1.map G.abs = fput (gs.map G.abs) { g.abs with name := b } ∧ (∀ k, k ≠ mb → W.heap[k]? = w.heap[k]?) ∧ W.os = w.os ∧ W.tape = w.tape ∧ W.output = w.output ∧ W.heap.size = w.heap.size ∧ (∀ k, foot d mb gs1 k → foot d mb gs0 k) := by
  have hok0 := hd0.ok g hg
  have hap : ∀ x ∈ gs, Apart x g := fun x hx => hd0.apart_ne (hs.subset hx) hg (hne x hx)
  have hnf : ¬ foot d mb gs g.fb := by
    rintro (e | e | ⟨x, hx, e | e⟩)
    · exact hd0.d_ne_fb hg e.symm
    · exact hd0.mb_ne_fb hg e.symm
    · exact (hap x hx).2.1 e.symm
    · exact hd0.fb_ne_gb (hs.subset hx) hg e rfl
  have hng : ∀ c, g.gb = some c → ¬ foot d mb gs c := by
    rintro c ec (e | e | ⟨x, hx, e | e⟩)
    · exact hd0.d_ne_gb hg ec e.symm
    · exact hd0.mb_ne_gb hg ec e.symm
    · exact hd0.fb_ne_gb hg (hs.subset hx) ec e.symm
    · exact (hap x hx).2.2.2 c e ec
  have hokW : ∀ (W : World) (nm : ByteArray) (bn : Nat), (∀ k, k ≠ mb → W.heap[k]? = w.heap[k]?) → G.ok W { g with name := nm, born := bn } := fun W nm bn hW =>
    ⟨((hW _ (hd0.mb_ne_fb hg).symm).trans (hk _ (hd0.mb_ne_fb hg).symm)).trans hok0.file, hok0.row.kept fun c e => (hW _ (hd0.mb_ne_gb hg e).symm).trans (hk _ (hd0.mb_ne_gb hg e).symm), hok0.sync⟩
  rcases gs_find gs b with ⟨h1, h2⟩ | ⟨x, hx, hxn, h3⟩
  · have hrun := hd.put_new g.fb h2
    obtain ⟨g', hg'⟩ : ∃ g' : G, g' = { g with name := b, born := clock } := ⟨_, rfl⟩
    have hWk : ∀ k, k ≠ mb → (setBlock w mb (.map ((gs.map G.entry).toArray.push { key := .string b, val := .pointer (some ⟨g.fb, 0, none⟩), born := clock }) (clock + 1))).heap[k]? = w.heap[k]? := fun k h => setBlock_other hd.map _ h
    refine ⟨_, gs ++ [g'], clock + 1, hrun, hd.more ?_ (fun k _ h => hWk k h) (by rw [hg']) (by rw [hg']; exact hokW _ _ _ hWk) (fun y hy => by rw [hg']; exact h2 y hy) (by rw [hg']; exact hnf) (by rw [hg']; exact hng), ?_, hWk, rfl, rfl, rfl, by simp [setBlock], ?_⟩
    · rw [setBlock_same hd.map]
      simp [hg', G.entry]
    · rw [hd.abs_more (fun y hy => by rw [hg']; exact h2 y hy), hg']; rfl
    · rintro k (rfl | rfl | ⟨y, hy, hye⟩)
      · exact .inl rfl
      · exact .inr (.inl rfl)
      · rcases List.mem_append.1 hy with hy | hy
        · exact .inr (.inr ⟨y, hs.subset hy, hye⟩)
        · rw [List.mem_singleton.1 hy, hg'] at hye
          exact .inr (.inr ⟨g, hg, hye⟩)
  · obtain ⟨j, hj, hrun⟩ := hd.put_old hx g.fb
    obtain ⟨g', hg'⟩ : ∃ g' : G, g' = { g with name := x.name, born := x.born } := ⟨_, rfl⟩
    have e1 : g'.name = x.name := by rw [hg']
    have e2 : g'.born = x.born := by rw [hg']
    have hm := hd.modifyAt hj e1 e2
    rw [show g'.fb = g.fb by rw [hg']] at hm
    rw [hm, hxn] at hrun
    have hWk : ∀ k, k ≠ mb → (setBlock w mb (.map ((repl gs x g').map G.entry).toArray clock)).heap[k]? = w.heap[k]? := fun k h => setBlock_other hd.map _ h
    refine ⟨_, repl gs x g', clock, hrun, hd.change hx e1 e2 (.inr (by rw [hg']; exact hnf)) (.inr (by rw [hg']; exact hng)) (by have := hokW _ x.name x.born hWk; rw [← hg'] at this; exact this) (setBlock_same hd.map _) (fun k _ h _ _ => hWk k h), ?_, hWk, rfl, rfl, rfl, by simp [setBlock], ?_⟩
    · rw [hd.abs_repl hx e1, hg', hxn]; rfl
    · rintro k (rfl | rfl | ⟨y, hy, hye⟩)
      · exact .inl rfl
      · exact .inr (.inl rfl)
      · unfold repl at hy
        obtain ⟨z, hz, rfl⟩ := List.mem_map.1 hy
        by_cases e : z.fb = x.fb
        · rw [if_pos e, hg'] at hye
          exact .inr (.inr ⟨g, hg, hye⟩)
        · rw [if_neg e] at hye
          exact .inr (.inr ⟨z, hs.subset hz, hye⟩)
set_option maxRecDepth 100000 in
theorem do_rename (hd : DiskC w d mb gs clock room after torn dead) {g : G} (hg : g ∈ gs) (b : ByteArray) (b1 b2 b3 : Nat)
    (o1 : w.heap[b1]? = some (.cells #[.pointer (some ⟨d, 0, none⟩)] 23 (0, 0))) (o2 : w.heap[b2]? = some (.cells #[.string g.name] 9 (0, 0))) (o3 : w.heap[b3]? = some (.cells #[.string b] 9 (0, 0))) :
    Calls Try.prog 67 #[.pointer (some ⟨g.fb, 0, none⟩), .pointer (some ⟨b1, 0, none⟩), .pointer (some ⟨b2, 0, none⟩), .pointer (some ⟨b3, 0, none⟩)] w fun e w' =>
    e = .returned (.tuple #[]) ∧ Left w d mb gs room after torn dead (frename g.name b (gs.map G.abs)) w' := by
  have hd2 : DiskC w.drew d mb gs clock room after torn dead := hd.kept fun _ _ => rfl
  obtain ⟨W, gs1, hdel, h1, h2, h3, h4, h5, h6⟩ := hd2.deleted hg
  have h1d : DiskC W.drew d mb gs1 clock room after torn dead := h1.kept fun _ _ => rfl
  obtain ⟨W2, gs2, ck, hupd, k1, k2, k3, k4, k5, k6, k7, k8⟩ := hd2.renamed hg h1d h3 h4 (fun k h => h6 k h) b
  have hL : Left w d mb gs room after torn dead (frename g.name b (gs.map G.abs)) W2 := by
    refine ⟨gs2, ck, k1, ?_, ⟨k4.trans h5.os, k5.trans h5.tape, k6.trans h5.output, by rw [k7]; exact h5.size, fun k hk hn => ?_, fun k hk => .inl (k8 k hk)⟩⟩
    · rcases gs_find gs g.name with ⟨_, e2⟩ | ⟨x, hx, hxn, e3⟩
      · exact absurd rfl (e2 g hg)
      · rw [frename_some e3, hd.name_inj hx hg hxn, k2, h2]
    · have : k ≠ mb := fun e => hn (.inr (.inl e))
      exact (k3 k this).trans (h6 k this)
  have HL := Lib.hid hL
  have nb : ∀ k, ¬ foot d mb gs k → k ≠ mb := fun k h e => h (.inr (.inl e))
  have m1 := nb _ (hd.not_foot o1 (by decide) (by decide) (by decide))
  have m3 := nb _ (hd.not_foot o3 (by decide) (by decide) (by decide))
  have c1 := cell_of_one o1
  have c2 := cell_of_one o2
  have e1 := cell_of_one ((h6 _ m1).trans o1)
  have e3 := cell_of_one ((h6 _ m3).trans o3)
  have d0 := hd.cell.1
  have d1 := h1.cell.1
  obtain ⟨n, hn⟩ : ∃ n, n = g.name := ⟨_, rfl⟩
  rw [← hn] at c2 hdel HL ⊢
  clear hL h1 h2 h3 h4 h5 h6 k1 k2 k3 k4 k5 k6 k7 k8 nb m1 m3 o1 o2 o3 hd2 h1d hn
  go_enter Try.func67, Try.ntmps67
  go_wp2_with fail
  go_region
  go_wp2_with fail
  go_region
  go_wp2_with fail
  go_end0
  exact ⟨rfl, HL.out⟩
set_option maxRecDepth 100000 in
theorem rename_any (hd : DiskC w d mb gs clock room after torn dead) (n b : ByteArray) (ha : after ≤ 9223372036854775807) :
    Calls Try.prog 39 #[.pointer (some ⟨d, 0, none⟩), .string n, .string b] w fun e w' => ∃ x, e = .returned (.int .i64 x) ∧
      x = (St.deed ⟨gs.map G.abs, room, after, torn, dead⟩ n (frename n b)).2 ∧ Leaves w d mb gs (St.deed ⟨gs.map G.abs, room, after, torn, dead⟩ n (frename n b)).1 w' := by
  obtain ⟨W2, hW2⟩ : ∃ W2, W2 = ((w.alloc (.cells #[.pointer (some ⟨d, 0, none⟩)] 23 (0, 0))).alloc (.cells #[.string n] 9 (0, 0))).alloc (.cells #[.string b] 9 (0, 0)) := ⟨_, rfl⟩
  obtain ⟨o1, o2, o3, hb⟩ := boxes w _ _ _ _ hW2
  have hd' := hd.below hb
  have n1 := hd'.not_foot o1 (by decide) (by decide) (by decide)
  have n2 := hd'.not_foot o2 (by decide) (by decide) (by decide)
  have n3 := hd'.not_foot o3 (by decide) (by decide) (by decide)
  have c1 := cell_of_one o1
  have c2 := cell_of_one o2
  have hw := with_any hd' n ha 67 #[.pointer (some ⟨w.heap.size, 0, none⟩), .pointer (some ⟨w.heap.size + 1, 0, none⟩), .pointer (some ⟨w.heap.size + 1 + 1, 0, none⟩)] call67 (frename n b) (fun g hg hn W a2 hW hk => by
    subst hn
    exact do_rename hW hg b _ _ _ ((hk _ (lt_of_block o1) n1).trans o1) ((hk _ (lt_of_block o2) n2).trans o2) ((hk _ (lt_of_block o3) n3).trans o3))
  have Hw := Lib.hid hw
  obtain ⟨res, hres⟩ : ∃ r, r = St.deed ⟨gs.map G.abs, room, after, torn, dead⟩ n (frename n b) := ⟨_, rfl⟩
  have hlift : ∀ w', Leaves W2 d mb gs res.1 w' → Leaves w d mb gs res.1 w' := fun w' ⟨g2, c2, x1, x2, x3⟩ => ⟨g2, c2, x1, x2, (Eff.below hb).trans x3⟩
  have Hl := Lib.hid hlift
  rw [← hres] at Hw ⊢
  have hmf : ∀ fn first cap w, (Instr.makeFunc fn first cap).run Try.prog w = .ok (.func fn first cap) w := fun _ _ _ _ => rfl
  have HW2 := Lib.hid hW2
  clear hw hd hd' hres hlift o1 o2 o3 n1 n2 n3 hb hW2
  go_enter Try.func39, Try.ntmps39
  go_upto_region 1 with fail
  rw [← HW2.out]
  go_wp2_with fail
  refine Hw.out.mono ?_
  rintro e w1 ⟨x, rfl, hR⟩
  have HR := Lib.hid hR
  clear hR
  go_wp2_with fail
  go_ret
  obtain ⟨r1, r2⟩ := HR.out
  exact ⟨x, rfl, r1, Hl.out _ r2⟩
end
end Go.Proofs.Ytmjeanbbhacnaaa

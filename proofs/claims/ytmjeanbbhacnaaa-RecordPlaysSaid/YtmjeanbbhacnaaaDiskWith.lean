/- The walks of (*Disk).with and of the deeds that go through it: Sync, Delete, Rename. No condition. -/
import Derived.Test.YtmjeanbbhacnaaaDiskAppend
namespace Go.Proofs.Ytmjeanbbhacnaaa
open Go.RowKit
open Go.ChangeMaps (setBlock)
attribute [local go_sem ↓] Go.wp_at_zero Go.wp_at_succ
theorem call73 : ∀ args w, (callFunc 73 args).run Try.prog w = .ok (.enter 73 args) w := fun _ _ => by kernel_rfl
theorem call72 : ∀ args w, (callFunc 72 args).run Try.prog w = .ok (.enter 72 args) w := fun _ _ => by kernel_rfl
def St.deed (st : St) (n : ByteArray) (F : List Fi → List Fi) : St × Int :=
  if st.dead then (st, 19)
  else if st.after = 0 then ({ st with dead := true }, 19)
  else if (fget st.files n).isSome then ({ st with after := if 0 < st.after then st.after - 1 else st.after, files := F st.files }, 0)
  else ({ st with after := if 0 < st.after then st.after - 1 else st.after }, 6)
section
variable {w : World} {d mb : Nat} {gs : List G} {clock : Nat} {room after torn : Int} {dead : Bool}
theorem Left.lift {W W2 w' : World} {l : List Fi} (h : Left W2 d mb gs room after torn dead l w') (hE : Eff (foot d mb gs) W (foot d mb gs) W2) : Left W d mb gs room after torn dead l w' := by
  obtain ⟨gs', ck, a1, a2, a3⟩ := h
  exact ⟨gs', ck, a1, a2, hE.trans a3⟩
theorem nothing_any (w : World) : Calls Try.prog 73 #[] w fun e w' => e = .returned (.tuple #[]) ∧ w = w' := by
  go_enter Try.func73, Try.ntmps73
  go_wp2_with fail
  go_end0
  exact ⟨rfl, rfl⟩
set_option maxRecDepth 100000 in
theorem with1_there (hd : DiskC w d mb gs clock room after torn dead) {g : G} (hg : g ∈ gs) (b1 b2 b3 : Nat) (f : FuncId) (cap : Array Value) (hf : ∀ args w, (callFunc f args).run Try.prog w = .ok (.enter f args) w)
    (c1 : w.cell? ⟨b1, 0, none⟩ = some (.pointer (some ⟨d, 0, none⟩))) (c2 : w.cell? ⟨b2, 0, none⟩ = some (.string g.name)) (c3 : w.cell? ⟨b3, 0, none⟩ = some (.func (.func f) #[] cap)) (R : World → Prop)
    (ht : ∀ q, Calls Try.prog f (#[.pointer (some ⟨g.fb, 0, none⟩)] ++ cap) (w.drewN q) fun e w' => e = .returned (.tuple #[]) ∧ R w') :
    Calls Try.prog 72 #[.pointer (some ⟨b1, 0, none⟩), .pointer (some ⟨b2, 0, none⟩), .pointer (some ⟨b3, 0, none⟩)] w fun e w' => ∃ x, e = .returned (.int .i64 x) ∧ (x = 0 ∧ R w') := by
  have hlook : ∀ q, (Instr.lookup 70 (.map (some mb)) (.string g.name) true).run Try.prog (w.drewN q) = .ok (.tuple #[.pointer (some ⟨g.fb, 0, none⟩), .bool true]) (w.drewN q) := fun q => DiskC.look (hd.kept (w' := w.drewN q) fun _ _ => rfl) hg
  have d0 := hd.cell.1
  have Ht := Lib.hid ht
  obtain ⟨n, hn⟩ : ∃ n, n = g.name := ⟨_, rfl⟩
  rw [← hn] at c2 hlook
  clear ht hn
  go_enter Try.func72, Try.ntmps72
  go_wp2_with fail
  go_quiet (fail)
  go_wp2_with fail
  refine (Ht.out _).mono ?_
  rintro e w1 ⟨rfl, hR⟩
  have HR := Lib.hid hR
  clear hR
  go_wp2_with fail
  go_ret
  exact ⟨0, rfl, rfl, HR.out⟩
set_option maxRecDepth 100000 in
theorem with1_none (hd : DiskC w d mb gs clock room after torn dead) (n : ByteArray) (hn : ∀ g ∈ gs, g.name ≠ n) (b1 b2 b3 : Nat)
    (c1 : w.cell? ⟨b1, 0, none⟩ = some (.pointer (some ⟨d, 0, none⟩))) (c2 : w.cell? ⟨b2, 0, none⟩ = some (.string n)) :
    Calls Try.prog 72 #[.pointer (some ⟨b1, 0, none⟩), .pointer (some ⟨b2, 0, none⟩), .pointer (some ⟨b3, 0, none⟩)] w fun e w' => ∃ x, e = .returned (.int .i64 x) ∧ (x = 6 ∧ Below w.heap.size w w') := by
  have hlook : ∀ q, (Instr.lookup 70 (.map (some mb)) (.string n) true).run Try.prog (w.drewN q) = .ok (.tuple #[.pointer none, .bool false]) (w.drewN q) := fun q => DiskC.look_none (hd.kept (w' := w.drewN q) fun _ _ => rfl) hn
  have d0 := hd.cell.1
  go_enter Try.func72, Try.ntmps72
  go_wp2_with fail
  go_quiet (fail)
  go_wp2_with fail
  go_ret
  exact ⟨6, rfl, rfl, rfl, rfl, rfl, Nat.le_refl _, fun _ _ => rfl⟩
set_option maxRecDepth 100000 in
set_option maxHeartbeats 800000 in
/-- A deed goes through 'with': what it does to the files is F, if the name is there. -/
theorem with_any (hd : DiskC w d mb gs clock room after torn dead) (n : ByteArray) (ha : after ≤ 9223372036854775807) (f : FuncId) (cap : Array Value) (hf : ∀ args w, (callFunc f args).run Try.prog w = .ok (.enter f args) w) (F : List Fi → List Fi)
    (ht : ∀ g ∈ gs, g.name = n → ∀ W a2, DiskC W d mb gs clock room a2 torn false → (∀ k, k < w.heap.size → ¬ foot d mb gs k → W.heap[k]? = w.heap[k]?) →
      Calls Try.prog f (#[.pointer (some ⟨g.fb, 0, none⟩)] ++ cap) W fun e w' => e = .returned (.tuple #[]) ∧ Left W d mb gs room a2 torn false (F (gs.map G.abs)) w') :
    Calls Try.prog 49 #[.pointer (some ⟨d, 0, none⟩), .string n, .func (.func f) #[] cap] w fun e w' => ∃ x, e = .returned (.int .i64 x) ∧
      x = (St.deed ⟨gs.map G.abs, room, after, torn, dead⟩ n F).2 ∧ Leaves w d mb gs (St.deed ⟨gs.map G.abs, room, after, torn, dead⟩ n F).1 w' := by
  obtain ⟨res, hres⟩ : ∃ r, r = St.deed ⟨gs.map G.abs, room, after, torn, dead⟩ n F := ⟨_, rfl⟩
  rw [← hres]
  obtain ⟨W3, hW3⟩ : ∃ W3, W3 = ((w.alloc (.cells #[.pointer (some ⟨d, 0, none⟩)] 23 (0, 0))).alloc (.cells #[.string n] 9 (0, 0))).alloc (.cells #[.func (.func f) #[] cap] 77 (0, 0)) := ⟨_, rfl⟩
  obtain ⟨o1, o2, o3, hb⟩ := boxes w _ _ _ _ hW3
  have hd' := hd.below hb
  have n1 := hd'.not_foot o1 (by decide) (by decide) (by decide)
  have n2 := hd'.not_foot o2 (by decide) (by decide) (by decide)
  have n3 := hd'.not_foot o3 (by decide) (by decide) (by decide)
  have kd : ∀ k, ¬ foot d mb gs k → k ≠ d := fun k h e => h (.inl e)
  have hstep : Calls Try.prog 45 #[.pointer (some ⟨d, 0, none⟩), .func (.func 72) #[] #[.pointer (some ⟨w.heap.size, 0, none⟩), .pointer (some ⟨w.heap.size + 1, 0, none⟩), .pointer (some ⟨w.heap.size + 1 + 1, 0, none⟩)],
      .func (.func 73) #[] #[]] W3 fun e w' => ∃ x, e = .returned (.int .i64 x) ∧ x = res.2 ∧ Leaves w d mb gs res.1 w' := by
    rw [hres]
    unfold St.deed
    cases dead
    case true =>
      refine (step_dead hd' _ _).mono ?_
      rintro e wx ⟨rfl, rfl⟩
      exact ⟨19, rfl, rfl, gs, clock, hd', rfl, Eff.below hb⟩
    case false =>
      simp only [Bool.false_eq_true, if_false]
      by_cases h0 : after = 0
      · subst h0
        rw [if_pos rfl]
        refine (step_crash hd' _ 73 _ call73 _ (nothing_any _)).mono ?_
        rintro e wx ⟨rfl, rfl⟩
        exact ⟨19, rfl, rfl, gs, clock, hd'.setDead true, rfl, (Eff.below hb).trans (Eff.setCell d 4 _ (.inl rfl))⟩
      · rw [if_neg h0]
        have hdo : ∀ (a2 : Int) (W : World), DiskC W d mb gs clock room a2 torn false → Eff (foot d mb gs) W3 (foot d mb gs) W → Calls Try.prog 72 #[.pointer (some ⟨w.heap.size, 0, none⟩), .pointer (some ⟨w.heap.size + 1, 0, none⟩), .pointer (some ⟨w.heap.size + 1 + 1, 0, none⟩)] W fun e w' =>
            ∃ x, e = .returned (.int .i64 x) ∧ (x = (if (fget (gs.map G.abs) n).isSome = true then ((⟨F (gs.map G.abs), room, a2, torn, false⟩ : St), (0 : Int)) else (⟨gs.map G.abs, room, a2, torn, false⟩, 6)).2 ∧
              Leaves w d mb gs (if (fget (gs.map G.abs) n).isSome = true then ((⟨F (gs.map G.abs), room, a2, torn, false⟩ : St), (0 : Int)) else (⟨gs.map G.abs, room, a2, torn, false⟩, 6)).1 w') := by
          intro a2 W hW hE
          have c1 := cell_of_one ((hE.keep _ (lt_of_block o1) n1).trans o1)
          have c2 := cell_of_one ((hE.keep _ (lt_of_block o2) n2).trans o2)
          have c3 := cell_of_one ((hE.keep _ (lt_of_block o3) n3).trans o3)
          rcases gs_find gs n with ⟨h1, h2⟩ | ⟨g, hg, hn, h3⟩
          · rw [h1]
            refine (with1_none hW n h2 _ _ _ c1 c2).mono ?_
            rintro e wx ⟨x, rfl, hx, hbx⟩
            exact ⟨x, rfl, hx, gs, clock, hW.below hbx, rfl, (Eff.below hb).trans (hE.trans (Eff.below hbx))⟩
          · rw [h3]
            rw [← hn] at c2
            refine (with1_there hW hg _ _ _ f cap hf c1 c2 c3 (Left W d mb gs room a2 torn false (F (gs.map G.abs))) (fun q => (ht g hg hn (W.drewN q) a2 (hW.kept fun _ _ => rfl) (fun k hk hnk => (hE.keep k (Nat.lt_of_lt_of_le hk hb.size) hnk).trans (hb.block k hk))).mono fun e wy hy => ⟨hy.1, hy.2.lift (Eff.below (F := foot d mb gs) (a := W) ⟨rfl, rfl, rfl, Nat.le_refl _, fun _ _ => rfl⟩)⟩)).mono ?_
            rintro e wx ⟨x, rfl, hx, hL⟩
            exact ⟨x, rfl, hx, Leaves.of ((Eff.below hb).trans hE) hL⟩
        by_cases h1 : 0 < after
        · rw [if_pos h1]
          exact step_dec hd' h1 ha _ 72 _ call72 _ (hdo (after - 1) _ (hd'.setAfter (after - 1)) (Eff.setCell d 2 _ (.inl rfl)))
        · rw [if_neg h1]
          exact step_go hd' (by omega) _ 72 _ call72 _ (hdo after _ hd' (Eff.refl _ _))
  have Hstep := Lib.hid hstep
  have c1 := cell_of_one o1
  have hmf : ∀ fn first cap w, (Instr.makeFunc fn first cap).run Try.prog w = .ok (.func fn first cap) w := fun _ _ _ _ => rfl
  have HW3 := Lib.hid hW3
  clear hstep hd hd' o1 o2 o3 hb n1 n2 n3 kd ht hres hW3
  go_enter Try.func49, Try.ntmps49
  go_upto_region 1 with fail
  rw [← HW3.out]
  go_wp2_with fail
  refine Hstep.out.mono ?_
  rintro e w1 ⟨x, rfl, hR⟩
  have HR := Lib.hid hR
  clear hR
  go_wp2_with fail
  go_ret
  exact ⟨x, rfl, HR.out⟩
theorem call50 : ∀ args w, (callFunc 50 args).run Try.prog w = .ok (.enter 50 args) w := fun _ _ => by kernel_rfl
theorem call51 : ∀ args w, (callFunc 51 args).run Try.prog w = .ok (.enter 51 args) w := fun _ _ => by kernel_rfl
theorem call67 : ∀ args w, (callFunc 67 args).run Try.prog w = .ok (.enter 67 args) w := fun _ _ => by kernel_rfl
/-! ### Sync -/
def fsync (n : ByteArray) (l : List Fi) : List Fi := match fget l n with | none => l | some f => fput l { f with synced := f.bytes.length }
theorem fsync_some {l : List Fi} {n : ByteArray} {f : Fi} (h : fget l n = some f) : fsync n l = fput l { f with synced := f.bytes.length } := by unfold fsync; rw [h]
set_option maxRecDepth 100000 in
theorem do_sync (hd : DiskC w d mb gs clock room after torn dead) {g : G} (hg : g ∈ gs) : Calls Try.prog 50 #[.pointer (some ⟨g.fb, 0, none⟩)] w fun e w' =>
    e = .returned (.tuple #[]) ∧ Left w d mb gs room after torn dead (fsync g.name (gs.map G.abs)) w' := by
  have hok := hd.ok g hg
  have c0 := hok.cell.1
  have c1 := hok.cell.2
  have f1 := hok.free 1
  rw [G.val] at c0
  have hfin : Left w d mb gs room after torn dead (fsync g.name (gs.map G.abs)) (w.setCell ⟨g.fb, 1, none⟩ (.int .i64 (g.bytes.length : Int))) := by
    obtain ⟨g', hg'⟩ : ∃ g' : G, g' = { g with synced := g.bytes.length } := ⟨_, rfl⟩
    have e1 : g'.name = g.name := by rw [hg']
    have hk : ∀ k, k ≠ g.fb → (w.setCell ⟨g.fb, 1, none⟩ (.int .i64 (g.bytes.length : Int))).heap[k]? = w.heap[k]? := fun k hne => setCell_other _ hne
    refine ⟨repl gs g g', clock, hd.turn hg e1 (by rw [hg']) (by rw [hg']) ?_ (.inl (by rw [hg'])) (fun k _ hne _ => hk k hne), ?_, rfl, rfl, rfl, by simp [World.setCell], fun k hlt hn => hk k (fun e => hn (.inr (.inr ⟨g, hg, .inl e⟩))), ?_⟩
    · rw [hg']
      refine ⟨?_, hok.row.kept (fun b e => hk b (hd.fb_ne_gb hg hg e).symm), Nat.le_refl _⟩
      rw [setCell_block _ hok.file]
      rfl
    · rw [hd.abs_repl hg e1]
      rcases gs_find gs g.name with ⟨_, h2⟩ | ⟨x, hx, hxn, h3⟩
      · exact absurd rfl (h2 g hg)
      · rw [fsync_some h3, hd.name_inj hx hg hxn, hg']; rfl
    · rintro k (rfl | rfl | ⟨x, hx, hxe⟩)
      · exact .inl (.inl rfl)
      · exact .inl (.inr (.inl rfl))
      · left
        unfold repl at hx
        obtain ⟨y, hy, rfl⟩ := List.mem_map.1 hx
        by_cases e : y.fb = g.fb
        · rw [if_pos e, hg'] at hxe; exact .inr (.inr ⟨g, hg, hxe⟩)
        · rw [if_neg e] at hxe; exact .inr (.inr ⟨y, hy, hxe⟩)
  have Hfin := Lib.hid hfin
  have hlen : (g.bytes.length : Int) ≤ 9223372036854775807 ∨ True := .inr trivial
  obtain ⟨a, ha⟩ : ∃ a : Option Addr, a = g.gb.map fun b => ⟨b, 0, none⟩ := ⟨_, rfl⟩
  rw [← ha] at c0
  clear hfin hok ha hlen
  go_enter Try.func50, Try.ntmps50
  go_wp2_with fail
  go_end0
  exact ⟨rfl, Hfin.out⟩
set_option maxRecDepth 100000 in
theorem sync_any (hd : DiskC w d mb gs clock room after torn dead) (n : ByteArray) (ha : after ≤ 9223372036854775807) :
    Calls Try.prog 18 #[.pointer (some ⟨d, 0, none⟩), .string n] w fun e w' => ∃ x, e = .returned (.int .i64 x) ∧
      x = (St.deed ⟨gs.map G.abs, room, after, torn, dead⟩ n (fsync n)).2 ∧ Leaves w d mb gs (St.deed ⟨gs.map G.abs, room, after, torn, dead⟩ n (fsync n)).1 w' := by
  have hw := with_any hd n ha 50 #[] call50 (fsync n) (fun g hg hn W a2 hW _ => by rw [← hn]; exact do_sync hW hg)
  have Hw := Lib.hid hw
  clear hw hd
  obtain ⟨res, hres⟩ : ∃ r, r = St.deed ⟨gs.map G.abs, room, after, torn, dead⟩ n (fsync n) := ⟨_, rfl⟩
  rw [← hres] at Hw ⊢
  clear hres
  go_enter Try.func18, Try.ntmps18
  go_wp2_with fail
  refine Hw.out.mono ?_
  rintro e w1 ⟨x, rfl, hR⟩
  have HR := Lib.hid hR
  clear hR
  go_wp2_with fail
  go_ret
  exact ⟨x, rfl, HR.out⟩
end
end Go.Proofs.Ytmjeanbbhacnaaa

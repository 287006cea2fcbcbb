/- The walk of (*Disk).Append, over a disk's whole state. The bounds: the room, and the files together, are at most 2^40 bytes; the text is no longer than any text in memory. -/
import Derived.Test.YtmjeanbbhacnaaaDiskTorn
namespace Go.Proofs.Ytmjeanbbhacnaaa
open Go.RowKit
attribute [local go_sem ↓] Go.wp_at_zero Go.wp_at_succ
/-- A disk, as one sees it from without. -/
structure St where
  files : List Fi
  room : Int
  after : Int
  torn : Int
  dead : Bool
def St.fits (st : St) (n : Nat) : Bool := decide ((ftotal st.files : Int) + n ≤ st.room)
def St.append (st : St) (n : ByteArray) (s : List UInt8) : St × Int :=
  if st.dead then (st, 19)
  else if st.after = 0 then ({ st with dead := true, files := tornL st.files n s (st.fits s.length) (tornK st.torn s.length) }, 19)
  else if st.fits s.length then ({ st with after := if 0 < st.after then st.after - 1 else st.after, files := flay st.files n s }, 0)
  else ({ st with after := if 0 < st.after then st.after - 1 else st.after }, 5)
/-- What a call leaves: that state; only the disk's blocks have turned. -/
def Leaves (w : World) (d mb : Nat) (gs : List G) (st : St) (w' : World) : Prop :=
  ∃ gs' clock', DiskC w' d mb gs' clock' st.room st.after st.torn st.dead ∧ gs'.map G.abs = st.files ∧ Eff (foot d mb gs) w (foot d mb gs') w'
section
variable {w : World} {d mb : Nat} {gs : List G} {clock : Nat} {room after torn : Int} {dead : Bool}
theorem Eff.setCell {F : Nat → Prop} (b i : Nat) (v : Value) (hb : F b) : Eff F w F (w.setCell ⟨b, i, none⟩ v) :=
  ⟨rfl, rfl, rfl, by simp [World.setCell], fun k _ hn => setCell_other v (fun e => hn (e ▸ hb)), fun _ h => .inl h⟩
theorem Leaves.of {w1 w2 : World} {gs1 : List G} {l : List Fi} {r a t : Int} {dd : Bool} (h1 : Eff (foot d mb gs) w (foot d mb gs1) w1) (h2 : Left w1 d mb gs1 r a t dd l w2) : Leaves w d mb gs ⟨l, r, a, t, dd⟩ w2 := by
  obtain ⟨gs', ck, a1, a2, a3⟩ := h2
  exact ⟨gs', ck, a1, a2, h1.trans a3⟩
theorem boxes (w : World) (x y z : Obj) (W : World) (hW : W = ((w.alloc x).alloc y).alloc z) : W.heap[w.heap.size]? = some x ∧ W.heap[w.heap.size + 1]? = some y ∧ W.heap[w.heap.size + 1 + 1]? = some z ∧ Below w.heap.size w W := by
  have s1 : (w.alloc x).heap.size = w.heap.size + 1 := World.size_alloc _ _
  have s2 : ((w.alloc x).alloc y).heap.size = w.heap.size + 1 + 1 := by rw [World.size_alloc, s1]
  have e2 := heap_alloc_new (w.alloc x) y
  have e3 := heap_alloc_new ((w.alloc x).alloc y) z
  rw [s1] at e2
  rw [s2] at e3
  subst hW
  refine ⟨?_, ?_, e3, ?_⟩
  · rw [heap_alloc_old _ _ (by omega), heap_alloc_old _ _ (by omega), heap_alloc_new]
  · rw [heap_alloc_old _ _ (by omega)]; exact e2
  · exact (((Below.refl _ _).alloc (Nat.le_refl _) _).alloc (by omega) _).alloc (by omega) _
set_option maxRecDepth 100000 in
set_option maxHeartbeats 800000 in
theorem append_any (hd : DiskC w d mb gs clock room after torn dead) (n s : ByteArray) (hs : s.size ≤ 281474976710656) (ht : total gs ≤ 1099511627776) (hr : room ≤ 1099511627776) (ha : after ≤ 9223372036854775807) :
    Calls Try.prog 17 #[.pointer (some ⟨d, 0, none⟩), .string n, .string s] w fun e w' => ∃ x, e = .returned (.int .i64 x) ∧
      x = (St.append ⟨gs.map G.abs, room, after, torn, dead⟩ n s.data.toList).2 ∧ Leaves w d mb gs (St.append ⟨gs.map G.abs, room, after, torn, dead⟩ n s.data.toList).1 w' := by
  obtain ⟨res, hres⟩ : ∃ r, r = St.append ⟨gs.map G.abs, room, after, torn, dead⟩ n s.data.toList := ⟨_, rfl⟩
  rw [← hres]
  have Hres := Lib.hid hres
  clear hres
  obtain ⟨fits, hfits⟩ : ∃ f : Bool, f = decide ((total gs : Int) + s.size ≤ room) := ⟨_, rfl⟩
  have Hfits := Lib.hid hfits
  clear hfits
  go_enter Try.func17, Try.ntmps17
  go_upto_region 1 with fail
  go_cut [7] (fun v wx => ∃ bf, v = .pointer (some ⟨bf, 0, none⟩) ∧ wx.heap[bf]? = some (.cells #[.bool fits] 4 (0, 0)) ∧ wx.heap[w.heap.size]? = some (.cells #[.pointer (some ⟨d, 0, none⟩)] 23 (0, 0)) ∧
    wx.heap[w.heap.size + 1]? = some (.cells #[.string n] 9 (0, 0)) ∧ wx.heap[w.heap.size + 1 + 1]? = some (.cells #[.string s] 9 (0, 0)) ∧ Below w.heap.size w wx)
  case first =>
    obtain ⟨W3, hW3⟩ : ∃ W3, W3 = ((w.alloc (.cells #[.pointer (some ⟨d, 0, none⟩)] 23 (0, 0))).alloc (.cells #[.string n] 9 (0, 0))).alloc (.cells #[.string s] 9 (0, 0)) := ⟨_, rfl⟩
    obtain ⟨o1, o2, o3, b3⟩ := boxes w _ _ _ _ hW3
    rw [← hW3]
    clear hW3
    have hl3 : w.heap.size + 1 + 1 < W3.heap.size := lt_of_block o3
    have hS0 : ∀ wx : World, Below W3.heap.size W3 wx → (wx.cell? ⟨w.heap.size, 0, none⟩ = some (.pointer (some ⟨d, 0, none⟩)) ∧ wx.cell? ⟨w.heap.size + 1 + 1, 0, none⟩ = some (.string s) ∧ wx.cell? ⟨d, 1, none⟩ = some (.int .i64 room) ∧ Below W3.heap.size W3 wx) := fun wx hb =>
      ⟨cell_of_one ((hb.block _ (by omega)).trans o1), cell_of_one ((hb.block _ (by omega)).trans o3), (hd.below (b3.trans (hb.mono (by omega)))).cell.2.1, hb⟩
    have hSc : ∀ wx wy : World, (wx.cell? ⟨w.heap.size, 0, none⟩ = some (.pointer (some ⟨d, 0, none⟩)) ∧ wx.cell? ⟨w.heap.size + 1 + 1, 0, none⟩ = some (.string s) ∧ wx.cell? ⟨d, 1, none⟩ = some (.int .i64 room) ∧ Below W3.heap.size W3 wx) → Below wx.heap.size wx wy → (wy.cell? ⟨w.heap.size, 0, none⟩ = some (.pointer (some ⟨d, 0, none⟩)) ∧ wy.cell? ⟨w.heap.size + 1 + 1, 0, none⟩ = some (.string s) ∧ wy.cell? ⟨d, 1, none⟩ = some (.int .i64 room) ∧ Below W3.heap.size W3 wy) := fun wx wy h hb => hS0 wy (h.2.2.2.trans (hb.mono h.2.2.2.size))
    have hSa : ∀ (wx : World) (o : Obj), (wx.cell? ⟨w.heap.size, 0, none⟩ = some (.pointer (some ⟨d, 0, none⟩)) ∧ wx.cell? ⟨w.heap.size + 1 + 1, 0, none⟩ = some (.string s) ∧ wx.cell? ⟨d, 1, none⟩ = some (.int .i64 room) ∧ Below W3.heap.size W3 wx) → ((wx.alloc o).cell? ⟨w.heap.size, 0, none⟩ = some (.pointer (some ⟨d, 0, none⟩)) ∧ (wx.alloc o).cell? ⟨w.heap.size + 1 + 1, 0, none⟩ = some (.string s) ∧ (wx.alloc o).cell? ⟨d, 1, none⟩ = some (.int .i64 room) ∧ Below W3.heap.size W3 (wx.alloc o)) := fun wx o h => hS0 _ (h.2.2.2.alloc h.2.2.2.size _)
    have hSt : ∀ (wx : World) (b : Nat) (v : Value), W3.heap.size ≤ b → (wx.cell? ⟨w.heap.size, 0, none⟩ = some (.pointer (some ⟨d, 0, none⟩)) ∧ wx.cell? ⟨w.heap.size + 1 + 1, 0, none⟩ = some (.string s) ∧ wx.cell? ⟨d, 1, none⟩ = some (.int .i64 room) ∧ Below W3.heap.size W3 wx) → ((wx.setCell ⟨b, 0, none⟩ v).cell? ⟨w.heap.size, 0, none⟩ = some (.pointer (some ⟨d, 0, none⟩)) ∧ (wx.setCell ⟨b, 0, none⟩ v).cell? ⟨w.heap.size + 1 + 1, 0, none⟩ = some (.string s) ∧ (wx.setCell ⟨b, 0, none⟩ v).cell? ⟨d, 1, none⟩ = some (.int .i64 room) ∧ Below W3.heap.size W3 (wx.setCell ⟨b, 0, none⟩ v)) := fun wx b v hb h => hS0 _ (h.2.2.2.setCell (p := ⟨b, 0, none⟩) hb v)
    have hu : ∀ wx : World, (wx.cell? ⟨w.heap.size, 0, none⟩ = some (.pointer (some ⟨d, 0, none⟩)) ∧ wx.cell? ⟨w.heap.size + 1 + 1, 0, none⟩ = some (.string s) ∧ wx.cell? ⟨d, 1, none⟩ = some (.int .i64 room) ∧ Below W3.heap.size W3 wx) → Calls Try.prog 40 #[.pointer (some ⟨d, 0, none⟩)] wx fun e w' => e = .returned (.int .i64 (total gs : Nat)) ∧ Below wx.heap.size wx w' := fun wx h => used_any (hd.below (b3.trans (h.2.2.2.mono (by omega)))) ht
    have hfin : ∀ (wx : World) (bf : Nat), (wx.cell? ⟨w.heap.size, 0, none⟩ = some (.pointer (some ⟨d, 0, none⟩)) ∧ wx.cell? ⟨w.heap.size + 1 + 1, 0, none⟩ = some (.string s) ∧ wx.cell? ⟨d, 1, none⟩ = some (.int .i64 room) ∧ Below W3.heap.size W3 wx) → wx.heap[bf]? = some (.cells #[.bool fits] 4 (0, 0)) → (∃ b, Value.pointer (some ⟨bf, 0, none⟩) = .pointer (some ⟨b, 0, none⟩) ∧ wx.heap[b]? = some (.cells #[.bool fits] 4 (0, 0)) ∧ wx.heap[w.heap.size]? = some (.cells #[.pointer (some ⟨d, 0, none⟩)] 23 (0, 0)) ∧
      wx.heap[w.heap.size + 1]? = some (.cells #[.string n] 9 (0, 0)) ∧ wx.heap[w.heap.size + 1 + 1]? = some (.cells #[.string s] 9 (0, 0)) ∧ Below w.heap.size w wx) := fun wx bf h hb =>
      ⟨bf, rfl, hb, (h.2.2.2.block _ (by omega)).trans o1, (h.2.2.2.block _ (by omega)).trans o2, (h.2.2.2.block _ (by omega)).trans o3, b3.trans (h.2.2.2.mono (by omega))⟩
    have hS1 := hS0 _ ((Below.refl W3.heap.size W3).drew)
    obtain ⟨t, htt⟩ : ∃ t, t = total gs := ⟨_, rfl⟩
    rw [← htt] at hu Hfits ht
    have hbt : (t : Int) + (s.size : Int) ≤ 282574488338432 := by omega
    have ht0 : (t : Int) ≤ 1099511627776 := by omega
    have hs0 : (s.size : Int) ≤ 281474976710656 := by omega
    have hw : decide (IntKind.i64.wrap ((t : Int) + (s.size : Int)) ≤ room) = fits := by
      rw [show IntKind.i64.wrap ((t : Int) + (s.size : Int)) = (t : Int) + (s.size : Int) from by rw [IntKind.wrap_i64]; omega]
      exact Hfits.out.symm
    have Hw := Lib.hid hw
    clear hw
    have Hu := Lib.hid hu
    have Hc := Lib.hid hSc
    have Ha := Lib.hid hSa
    have Ht := Lib.hid hSt
    have Hfin := Lib.hid hfin
    clear hu hSc hSa hSt hfin hS0 htt o1 o2 o3
    go_region_held3 (fun w' => (w'.cell? ⟨w.heap.size, 0, none⟩ = some (.pointer (some ⟨d, 0, none⟩)) ∧ w'.cell? ⟨w.heap.size + 1 + 1, 0, none⟩ = some (.string s) ∧ w'.cell? ⟨d, 1, none⟩ = some (.int .i64 room) ∧ Below W3.heap.size W3 w')) (first | assumption | exact hS1 | exact Hc.out _ _ (by assumption) hbx | exact Ha.out _ _ (by assumption) | exact Ha.out _ _ (Hc.out _ _ hS1 hbx) | exact Ht.out _ _ _ (Nat.le_refl _) (by assumption)) (first | (go_at_call 40; ((with_reducible refine (Hu.out _ (by assumption)).mono ?_); rintro e wx ⟨rfl, hbx⟩; first | (have hbb := (hbx.block W3.heap.size (Nat.lt_of_lt_of_eq (Nat.lt_succ_self _) (World.size_alloc W3 _).symm)).trans (heap_alloc_new W3 _); have hfr := frozen_of_row _ _ 0 _ _ hbb; have hcc := cell_of_one hbb) | skip)))
    all_goals rename_i hS
    all_goals rw [Hw.out] at hS ⊢
    all_goals go_wp2_with fail
    · go_meet
      exact Hfin.out _ _ hS (heap_alloc_new _ _)
    · go_meet
      exact Hfin.out _ _ hS (setCell_block _ hbb)
  case rest =>
    obtain ⟨bf, rfl, o1, o2, o3, o4, hb⟩ := hcut
    have hd' := hd.below hb
    have n1 := hd'.not_foot o1 (by decide) (by decide) (by decide)
    have n2 := hd'.not_foot o2 (by decide) (by decide) (by decide)
    have n3 := hd'.not_foot o3 (by decide) (by decide) (by decide)
    have n4 := hd'.not_foot o4 (by decide) (by decide) (by decide)
    have kd : ∀ k, ¬ foot d mb gs k → k ≠ d := fun k h e => h (.inl e)
    have hstep : Calls Try.prog 45 #[.pointer (some ⟨d, 0, none⟩), .func (.func 46) #[] #[.pointer (some ⟨bf, 0, none⟩), .pointer (some ⟨w.heap.size, 0, none⟩), .pointer (some ⟨w.heap.size + 1, 0, none⟩), .pointer (some ⟨w.heap.size + 1 + 1, 0, none⟩)],
        .func (.func 48) #[] #[.pointer (some ⟨w.heap.size, 0, none⟩), .pointer (some ⟨w.heap.size + 1 + 1, 0, none⟩), .pointer (some ⟨bf, 0, none⟩), .pointer (some ⟨w.heap.size + 1, 0, none⟩)]] wc fun e w' =>
        ∃ x, e = .returned (.int .i64 x) ∧ x = res.2 ∧ Leaves w d mb gs res.1 w' := by
      have hf : St.fits ⟨gs.map G.abs, room, after, torn, dead⟩ s.data.toList.length = fits := by
        rw [Hfits.out]; unfold St.fits; rw [total_abs, Array.length_toList]; rfl
      have hsl : s.data.toList.length = s.size := by rw [Array.length_toList]; rfl
      rw [Hres.out]
      unfold St.append
      rw [hf, hsl]
      have hfb : fits = true → total gs + s.size ≤ 1099511627776 := fun e => by
        have := Hfits.out
        rw [e] at this
        have := of_decide_eq_true this.symm
        omega
      have hbg : fits = true → ∀ g ∈ gs, g.bytes.length + s.size ≤ 1099511627776 := fun e g hg => by have := hfb e; have := total_mem hg; omega
      have hbs : fits = true → s.size ≤ 1099511627776 := fun e => by have := hfb e; omega
      cases dead
      case true =>
        refine (step_dead hd' _ _).mono ?_
        rintro e wx ⟨rfl, rfl⟩
        exact ⟨19, rfl, rfl, gs, clock, hd', rfl, Eff.below hb⟩
      case false =>
        simp only [Bool.false_eq_true, if_false]
        by_cases h0 : after = 0
        · subst h0
          rw [if_pos rfl]
          refine (step_crash hd' _ 48 _ call48 _ (do_torn (hd'.setDead true) n s fits hbg hbs _ _ _ _ ((setCell_other _ (kd _ n2)).trans o2) ((setCell_other _ (kd _ n4)).trans o4) ((setCell_other _ (kd _ n1)).trans o1) ((setCell_other _ (kd _ n3)).trans o3))).mono ?_
          rintro e wx ⟨rfl, hL⟩
          exact ⟨19, rfl, rfl, Leaves.of ((Eff.below hb).trans (Eff.setCell d 4 _ (.inl rfl))) hL⟩
        · rw [if_neg h0]
          have hfin : ∀ (a2 : Int) (W : World), Eff (foot d mb gs) w (foot d mb gs) W → ∀ e wx, (∃ x, e = Ending.returned (.int .i64 x) ∧ (x = (if fits then 0 else 5) ∧ Left W d mb gs room a2 torn false (if fits then flay (gs.map G.abs) n s.data.toList else gs.map G.abs) wx)) →
              ∃ x, e = Ending.returned (.int .i64 x) ∧ x = (if fits = true then ((⟨flay (gs.map G.abs) n s.data.toList, room, a2, torn, false⟩ : St), (0 : Int)) else (⟨gs.map G.abs, room, a2, torn, false⟩, 5)).2 ∧
                Leaves w d mb gs (if fits = true then ((⟨flay (gs.map G.abs) n s.data.toList, room, a2, torn, false⟩ : St), (0 : Int)) else (⟨gs.map G.abs, room, a2, torn, false⟩, 5)).1 wx := by
            rintro a2 W hE e wx ⟨x, rfl, hx, hL⟩
            cases fits
            · exact ⟨x, rfl, hx, Leaves.of hE hL⟩
            · exact ⟨x, rfl, hx, Leaves.of hE hL⟩
          by_cases h1 : 0 < after
          · rw [if_pos h1]
            refine (step_dec hd' h1 ha _ 46 _ call46 _ (do_append (hd'.setAfter (after - 1)) n s fits hbg hbs _ _ _ _ (cell_of_one ((setCell_other _ (kd _ n1)).trans o1)) (cell_of_one ((setCell_other _ (kd _ n2)).trans o2)) (cell_of_one ((setCell_other _ (kd _ n3)).trans o3)) (cell_of_one ((setCell_other _ (kd _ n4)).trans o4)))).mono ?_
            exact hfin _ _ ((Eff.below hb).trans (Eff.setCell d 2 _ (.inl rfl)))
          · rw [if_neg h1]
            refine (step_go hd' (by omega) _ 46 _ call46 _ (do_append hd' n s fits hbg hbs _ _ _ _ (cell_of_one o1) (cell_of_one o2) (cell_of_one o3) (cell_of_one o4))).mono ?_
            exact hfin _ _ (Eff.below hb)
    have Hstep := Lib.hid hstep
    have c2 := cell_of_one o2
    have hmf : ∀ fn first cap w, (Instr.makeFunc fn first cap).run Try.prog w = .ok (.func fn first cap) w := fun _ _ _ _ => rfl
    clear hstep o1 o2 o3 o4 hb hd' n1 n2 n3 n4 kd
    go_wp2_with fail
    refine Hstep.out.mono ?_
    rintro e w1 ⟨x, rfl, hR⟩
    have HR := Lib.hid hR
    clear hR
    go_wp2_with fail
    go_ret
    exact ⟨x, rfl, HR.out⟩
end
end Go.Proofs.Ytmjeanbbhacnaaa

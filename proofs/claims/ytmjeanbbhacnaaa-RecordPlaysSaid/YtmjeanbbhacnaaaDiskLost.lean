/- The walks of New, of slices.Clone at bytes, and of Lost. The one bound: a file has at most 2^40 bytes. -/
import Derived.Test.YtmjeanbbhacnaaaDiskDeeds
import Derived.Carry
namespace Go.Proofs.Ytmjeanbbhacnaaa
open Go.RowKit
open Go.ChangeMaps (setBlock)
attribute [local go_sem ↓] Go.wp_at_zero Go.wp_at_succ
theorem RowOk.cap_le {w : World} {gb : Option Nat} {cap : Nat} {bs : List UInt8} (h : RowOk w gb cap bs) : bs.length ≤ cap := by
  cases gb with
  | none => obtain ⟨rfl, rfl⟩ : bs = [] ∧ cap = 0 := h; exact Nat.le_refl _
  | some b => obtain ⟨_, _, _, _, _, hl, _⟩ := h; exact hl
section
variable {w : World} {d mb : Nat} {gs : List G} {clock : Nat} {room after torn : Int} {dead : Bool}
theorem DiskC.fresh (w : World) (room : Int) : DiskC ((w.alloc (.map #[] 0)).alloc (.cells #[.map (some w.heap.size), .int .i64 room, .int .i64 (-1), .int .i64 0, .bool false] 72 (0, 0))) (w.heap.size + 1) w.heap.size [] 0 room (-1) 0 false := by
  obtain ⟨h1, h2, _⟩ := boxes2 w (.map #[] 0) (.cells #[.map (some w.heap.size), .int .i64 room, .int .i64 (-1), .int .i64 0, .bool false] 72 (0, 0)) _ rfl
  exact ⟨h2, h1, (fun _ h => (by cases h)), List.Pairwise.nil, (fun _ h => (by cases h))⟩
set_option maxRecDepth 100000 in
theorem fresh_any (w : World) (room : Int) : Calls Try.prog 44 #[.int .i64 room] w fun e w' => e = .returned (.pointer (some ⟨w.heap.size + 1, 0, none⟩)) ∧
    w' = (w.alloc (.map #[] 0)).alloc (.cells #[.map (some w.heap.size), .int .i64 room, .int .i64 (-1), .int .i64 0, .bool false] 72 (0, 0)) := by
  have hmm := @run_makeMap Try.prog
  go_enter Try.func44, Try.ntmps44
  go_wp2_with fail
  go_ret
  exact ⟨rfl, rfl⟩
set_option maxRecDepth 100000 in
theorem new_any (w : World) (room : Int) (h0 : 0 ≤ room) (h1 : room ≤ 1048576) : Calls Try.prog 16 #[.int .i64 room] w fun e w' => e = .returned (.tuple #[.pointer (some ⟨w.heap.size + 1, 0, none⟩), .int .i64 0]) ∧
    w' = (w.alloc (.map #[] 0)).alloc (.cells #[.map (some w.heap.size), .int .i64 room, .int .i64 (-1), .int .i64 0, .bool false] 72 (0, 0)) := by
  have hf := fresh_any w room
  have Hf := Lib.hid hf
  clear hf
  go_enter Try.func16, Try.ntmps16
  go_wp2_with fail
  refine Hf.out.mono ?_
  rintro e w1 ⟨rfl, hR⟩
  have HR := Lib.hid hR
  clear hR
  go_wp2_with fail
  go_ret2
  exact ⟨rfl, HR.out⟩
theorem run_build_none (w : World) : (Instr.buildSlice 51 0 #[]).run Try.prog w = .ok (.slice (some ⟨w.heap.size, 0, none⟩) 0 0) (w.alloc (.cells #[] 5 (0, 0))) := by kernel_rfl
set_option maxRecDepth 100000 in
theorem clone_any {gb : Option Nat} {cap : Nat} {bs : List UInt8} (hr : RowOk w gb cap bs) (n c : Nat) (hn : n ≤ bs.length) (hb : n ≤ 1099511627776) :
    Calls Try.prog 52 #[.slice (gb.map fun b => ⟨b, 0, none⟩) n c] w fun e w' => ∃ gb' cap', e = .returned (.slice (gb'.map fun b => ⟨b, 0, none⟩) n cap') ∧
      RowOk w' gb' cap' (bs.take n) ∧ (∀ b, gb' = some b → w.heap.size ≤ b) ∧ Below w.heap.size w w' := by
  have hln : (bs.take n).length = n := by rw [List.length_take]; omega
  cases gb with
  | none =>
    obtain ⟨rfl, rfl⟩ : bs = [] ∧ cap = 0 := hr
    have hn0 : n = 0 := by simpa using hn
    subst hn0
    have heq : ∀ w, (binOp BinOp.eql 51 (Value.slice none 0 c) (Value.slice none 0 0)).run Try.prog w = .ok (.bool true) w := fun _ => by kernel_rfl
    go_enter Try.func52, Try.ntmps52
    go_wp2_with fail
    go_ret
    exact ⟨none, 0, rfl, ⟨rfl, rfl⟩, fun _ h => (by cases h), Below.refl _ _⟩
  | some b =>
    have heq : ∀ w, (binOp BinOp.eql 51 (Value.slice (some ⟨b, 0, none⟩) n c) (Value.slice none 0 0)).run Try.prog w = .ok (.bool false) w := fun _ => by kernel_rfl
    obtain ⟨W1, hW1⟩ : ∃ W1, W1 = w.alloc (.cells #[] 5 (0, 0)) := ⟨_, rfl⟩
    have hrow1 : BRow W1 w.heap.size 0 5 [] := ⟨#[], (0, 0), by rw [hW1]; exact heap_alloc_new w _, rfl, fun k hk => (by omega), Nat.le_refl _, fun i hi => (by simp at hi)⟩
    have hb1 : Below w.heap.size w W1 := by rw [hW1]; exact (Below.refl _ _).alloc (Nat.le_refl _) _
    have hr1 : RowOk W1 (some b) cap bs := hr.kept fun k hk => hb1.block k (by cases hk; exact hr.lt)
    have hs1 : w.heap.size < W1.heap.size := hrow1.lt
    obtain ⟨gb', cap', W, hrun, k1, k2, k3⟩ := run_append_bytes W1 51 (some w.heap.size) 0 [] hrow1 51 _ _ (hr1.src n c hn) (by simp only [List.length_nil]; omega)
    have hfin : RowOk W gb' cap' (bs.take n) ∧ (∀ b, gb' = some b → w.heap.size ≤ b) ∧ Below w.heap.size w W := by
      refine ⟨by simpa using k1, ?_, ?_⟩
      · intro x hx
        rcases k2 with e | e
        · rw [e] at hx; cases hx; exact Nat.le_refl _
        · rw [e] at hx; cases hx; exact Nat.le_of_lt hs1
      · exact ⟨k3.os.trans hb1.os, k3.tape.trans hb1.tape, k3.output.trans hb1.output, Nat.le_trans hb1.size k3.size, fun k hk => (k3.block k (Nat.lt_trans hk hs1) (fun e => by cases e; omega)).trans (hb1.block k hk)⟩
    rw [show ([] : List UInt8).length + (bs.take n).length = n by rw [hln]; simp] at hrun
    obtain ⟨a', ha'⟩ : ∃ a : Option Addr, a = gb'.map fun b => ⟨b, 0, none⟩ := ⟨_, rfl⟩
    rw [← ha'] at hrun
    have hrun' : (Builtin.append_ #[51, 51] 51 #[.slice (some ⟨w.heap.size, 0, none⟩) 0 0, .slice (some ⟨b, 0, none⟩) n c]).run Try.prog (w.alloc (.cells #[] 5 (0, 0))) = .ok (.slice a' n cap') W := by rw [← hW1]; exact hrun
    have Hrun := Lib.hid hrun'
    clear hrun'
    have Hfin := Lib.hid hfin
    have Ha := Lib.hid ha'
    clear hrun hfin ha' hr1 hs1 hW1 hrow1 hb1 hln k1 k2 k3 hr
    go_enter Try.func52, Try.ntmps52
    go_wp2_with (at_builtin; refine wpList_append_run _ _ 51 51 _ _ _ W (by rfl) (by rfl) Hrun.out ?_; go_frame)
    go_ret
    exact ⟨gb', cap', by rw [Ha.out]; rfl, Hfin.out⟩
/-! ### Lost -/
/-- What is kept of a file. -/
def keepN (keep : Int) (f : Fi) : Nat := f.synced + min keep.toNat (f.bytes.length - f.synced)
def flost (keep : Int) (f : Fi) : Fi := ⟨f.name, f.bytes.take (keepN keep f), keepN keep f⟩
set_option maxRecDepth 100000 in
theorem lost_any (h : DiskC w d mb gs clock room after torn dead) (keep : Int) (ht : total gs ≤ 1099511627776) :
    Calls Try.prog 20 #[.pointer (some ⟨d, 0, none⟩), .int .i64 keep] w fun e w' => ∃ d2 mb2 gs2 ck2, e = .returned (.pointer (some ⟨d2, 0, none⟩)) ∧
      DiskC w' d2 mb2 gs2 ck2 room (-1) 0 false ∧ (gs2.map G.abs).Perm ((gs.map G.abs).map (flost keep)) ∧ (∀ k, foot d2 mb2 gs2 k → w.heap.size ≤ k) ∧ Below w.heap.size w w' := by
  have c1 := h.cell.2.1
  have hfr := fresh_any w room
  have Hfr := Lib.hid hfr
  clear hfr
  obtain ⟨W1, hW1⟩ : ∃ W1, W1 = (w.alloc (.map #[] 0)).alloc (.cells #[.map (some w.heap.size), .int .i64 room, .int .i64 (-1), .int .i64 0, .bool false] 72 (0, 0)) := ⟨_, rfl⟩
  have hd1 := DiskC.fresh w room
  rw [← hW1] at Hfr hd1
  have hb1 : Below w.heap.size w W1 := by rw [hW1]; exact ((Below.refl _ _).alloc (Nat.le_refl _) _).alloc (by rw [World.size_alloc]; omega) _
  have hl1 : w.heap.size + 1 < W1.heap.size := hd1.lt (.inl rfl)
  have h1 := h.below hb1
  have c0 := h1.cell.1
  have hrange := run_range_map (P := Try.prog) W1 70 9 78 mb _ clock Try.underlying70 h1.map
  obtain ⟨W2, hW2⟩ : ∃ W2, W2 = W1.alloc (.mapIter (some mb) clock #[] clock) := ⟨_, rfl⟩
  have hr2 : W2.heap[W1.heap.size]? = some (.mapIter (some mb) clock #[] clock) := by rw [hW2]; exact heap_alloc_new W1 _
  have hb2 : Below W1.heap.size W1 W2 := by rw [hW2]; exact (Below.refl _ _).alloc (Nat.le_refl _) _
  have hd2 := hd1.below hb2
  have hbw : Below w.heap.size w W2 := hb1.trans (hb2.mono (by omega))
  rw [← hW2] at hrange
  clear hW1 hW2
  go_enter Try.func20, Try.ntmps20
  go_wp2_with fail
  refine Hfr.out.mono ?_
  rintro e w1 ⟨rfl, hw1⟩
  rw [hw1]
  clear Hfr hw1 w1
  go_wp2_with fail
  go_loopw [] (fun wr => ∃ seen c0 gs2 ck2, wr.heap[W1.heap.size]? = some (.mapIter (some mb) clock seen c0) ∧ clock ≤ c0 ∧
    DiskC wr (w.heap.size + 1) w.heap.size gs2 ck2 room (-1) 0 false ∧ (gs2.map G.abs).Perm (((came gs seen).map G.abs).map (flost keep)) ∧ (∀ k, foot (w.heap.size + 1) w.heap.size gs2 k → w.heap.size ≤ k) ∧ Below w.heap.size w wr) (fun wr => (left gs (wr.iterSeen W1.heap.size)).length)
  case atStart =>
    refine ⟨#[], clock, [], 0, hr2, Nat.le_refl _, hd2, by rw [came_none]; exact List.Perm.refl _, ?_, hbw⟩
    rintro k (rfl | rfl | ⟨_, hx, _⟩)
    · omega
    · omega
    · cases hx
  case round =>
    obtain ⟨seen, c0, gs2, ck2, hr, hc, hD, hP, hF, hb⟩ := hrel
    have hd := h.below hb
    have hseen : wr.iterSeen W1.heap.size = seen := by unfold World.iterSeen; rw [hr]
    clear hr2 hd2 hbw hrange hd1 hb1 hb2 h1
    rcases hd.iter hr hc with ⟨hnone, hnext⟩ | ⟨g, hg, hs, W, hnext, hentry, hrW, hszW, ho1, ho2, ho3, hkW⟩
    · have hall := came_perm gs seen
      rw [hnone, List.append_nil] at hall
      have Hfin := Lib.hid (And.intro hD (And.intro ((hP.trans ((hall.map _).map _))) (And.intro hF hb)))
      clear hall hnone hseen hr hD hP hF hb hd
      go_wp2_with fail
      go_ret
      obtain ⟨q1, q2, q3, q4⟩ := Hfin.out
      exact ⟨_, _, gs2, ck2, rfl, q1, q2, q3, q4⟩
    · have hbW : Below w.heap.size w W := hb.trans ⟨ho1, ho2, ho3, Nat.le_of_eq hszW.symm, fun k hk => hkW k (by omega)⟩
      have hdW := h.below hbW
      have hok := hdW.ok g hg
      have hDW : DiskC W (w.heap.size + 1) w.heap.size gs2 ck2 room (-1) 0 false := hD.kept fun k hk => hkW k (fun e => by
        subst e
        rcases hk with e | e | ⟨x, hx, e | e⟩
        · have := hD.disk; rw [← e, hr] at this; cases this
        · have := hD.map; rw [← e, hr] at this; cases this
        · have := (hD.ok x hx).file; rw [← e, hr] at this; cases this
        · have hrr := (hD.ok x hx).row; rw [e] at hrr
          obtain ⟨_, _, hbb, _⟩ := hrr
          rw [hr] at hbb; cases hbb)
      have hparts := step_parts h.apart hg hs
      have hseenW : W.iterSeen W1.heap.size = seen.push g.born := by unfold World.iterSeen; rw [hrW]
      have hlen : (left gs (seen.push g.born)).length < (left gs seen).length := by rw [hparts.2.length_eq]; simp
      have g1 := hok.cell.1
      have g2 := hok.cell.2
      rw [G.val] at g1
      have hsync : (g.synced : Int) ≤ g.bytes.length := by have := hok.sync; omega
      have hbl : (g.bytes.length : Int) ≤ 1099511627776 := by have := total_mem hg; omega
      obtain ⟨a, ha⟩ : ∃ a : Option Addr, a = g.gb.map fun b => ⟨b, 0, none⟩ := ⟨_, rfl⟩
      obtain ⟨l, hl⟩ : ∃ l, l = g.bytes.length := ⟨_, rfl⟩
      rw [← ha, ← hl] at g1
      rw [← hl] at hsync hbl
      have hkn : keepN keep g.abs = g.synced + min keep.toNat (l - g.synced) := by rw [hl]; rfl
      have Hkn := Lib.hid hkn
      clear hkn
      go_upto_region 5 with fail
      go_cut [8] from 19 to 56 (fun v wx => v = .int .i64 (keepN keep g.abs : Nat) ∧ ∃ q, wx = W.drewN q)
      case first =>
        go_quiet (fail)
        go_wp2_with fail
        all_goals (go_meet; refine ⟨?_, _, rfl⟩; rw [Hkn.out]; apply congrArg; omega)
      case rest =>
        obtain ⟨rfl, q, rfl⟩ := hcut
        obtain ⟨W4, hW4⟩ : ∃ W4, W4 = W.drewN q := ⟨_, rfl⟩
        have hh : ∀ k : Nat, W4.heap[k]? = W.heap[k]? := fun k => by rw [hW4]; rfl
        have hszW4 : W4.heap.size = W.heap.size := by rw [hW4]; rfl
        have hrW4 : W4.heap[W1.heap.size]? = some (.mapIter (some mb) clock (seen.push g.born) clock) := (hh _).trans hrW
        have hb4 : Below w.heap.size w W4 := ⟨by rw [hW4]; exact hbW.os, by rw [hW4]; exact hbW.tape, by rw [hW4]; exact hbW.output, by rw [hszW4]; exact hbW.size, fun k hk => (hh k).trans (hbW.block k hk)⟩
        have hok4 : g.ok W4 := hok.kept (hh _) (fun b _ => hh b)
        have hD4 : DiskC W4 (w.heap.size + 1) w.heap.size gs2 ck2 room (-1) 0 false := hDW.kept fun k _ => hh k
        rw [← hW4]
        have d1 : W4.cell? ⟨w.heap.size + 1, 0, none⟩ = some (.map (some w.heap.size)) := hD4.cell.1
        have d2 : W4.cell? ⟨g.fb, 0, none⟩ = some (.slice a l g.cap) := by rw [hok4.cell.1, G.val, ← ha, ← hl]
        have hnl : keepN keep g.abs ≤ l := by rw [Hkn.out]; have := hok.sync; omega
        have hcl : ∀ wx : World, Below W4.heap.size W4 wx → Calls Try.prog 52 #[.slice a (keepN keep g.abs) g.cap] wx fun e w' => ∃ a' cap', e = .returned (.slice a' (keepN keep g.abs) cap') ∧ (∃ gb' : Option Nat, a' = gb'.map (fun b => ⟨b, 0, none⟩) ∧
            RowOk w' gb' cap' (g.bytes.take (keepN keep g.abs)) ∧ (∀ b, gb' = some b → wx.heap.size ≤ b)) ∧ Below wx.heap.size wx w' := fun wx hbx => by
          rw [ha]
          refine (clone_any (hok4.row.kept (w' := wx) fun b e => hbx.block b (by have := hok4.row; rw [e] at this; exact this.lt)) (keepN keep g.abs) g.cap (by rw [← hl]; exact hnl) (by omega)).mono ?_
          rintro e wy ⟨gb', cap', rfl, r1, r2, r3⟩
          exact ⟨_, cap', rfl, ⟨gb', rfl, r1, r2⟩, r3⟩
        have hnew : ∀ x ∈ gs2, x.name ≠ g.name := by
          intro x hx e
          have hm := hP.subset (List.mem_map_of_mem (f := G.abs) hx)
          rw [List.map_map, List.mem_map] at hm
          obtain ⟨y, hy, hye⟩ := hm
          have hyn : y.name = g.name := by rw [← e]; exact congrArg Fi.name hye
          unfold came at hy
          rw [List.mem_filter] at hy
          have := h.name_inj hy.1 hg hyn
          rw [this, hs] at hy
          exact absurd hy.2 (by decide)
        obtain ⟨n, hn⟩ : ∃ n, n = keepN keep g.abs := ⟨_, rfl⟩
        rw [← hn] at hcl hnl ⊢
        have hupd : ∀ (wx : World) (a' : Option Addr) (cap' : Nat), Below W4.heap.size W4 wx → (Instr.mapUpdate 70 (.map (some w.heap.size)) (.string g.name) (.pointer (some ⟨wx.heap.size, 0, none⟩))).run Try.prog (wx.alloc (.cells #[.slice a' n cap', .int .i64 (n : Int)] 80 (0, 0))) =
            .ok () (setBlock (wx.alloc (.cells #[.slice a' n cap', .int .i64 (n : Int)] 80 (0, 0))) w.heap.size (.map ((gs2.map G.entry).toArray.push { key := .string g.name, val := .pointer (some ⟨wx.heap.size, 0, none⟩), born := ck2 }) (ck2 + 1))) := fun wx a' cap' hbx =>
          (hD4.below (hbx.trans ((Below.refl _ _).alloc hbx.size _))).put_new _ hnew
        have hgm : g.fb ≠ w.heap.size := fun e => by have := lt_of_block (h.ok g hg).file; rw [e] at this; exact Nat.lt_irrefl _ this
        have hnl2 : (n : Int) ≤ (l : Int) := by omega
        have hn0 : (0 : Int) ≤ (n : Int) := by omega
        have hnc : (n : Int) ≤ (g.cap : Int) := by have := hok4.row.cap_le; omega
        obtain ⟨cp, hcp⟩ : ∃ c, c = g.cap := ⟨_, rfl⟩
        rw [← hcp] at d2 hcl hnc
        clear hcp
        have HH := Lib.hid (And.intro hn (And.intro hP (And.intro hparts (And.intro hseenW (And.intro hlen (And.intro hseen hnew))))))
        have HD := Lib.hid (And.intro hD4 (And.intro hb4 (And.intro hrW4 (And.intro hF hsync))))
        have Hcl := Lib.hid hcl
        have Ha := Lib.hid (And.intro ha hl)
        have Hupd := Lib.hid hupd
        clear ha hl hn hP hparts hseenW hlen hseen hnew hD4 hb4 hrW4 hF hcl hupd hnext hentry hW4 hh hok4 hDW hok hdW hbW hrW hszW ho1 ho2 ho3 hkW hD hr hd hb
        have hKc : ∀ wx : World, Below W4.drew.heap.size W4.drew wx → (wx.cell? ⟨w.heap.size + 1, 0, none⟩ = some (.map (some w.heap.size)) ∧ wx.cell? ⟨g.fb, 0, none⟩ = some (.slice a l cp)) := fun wx hb => ⟨(hb.cell (World.block_lt_of_cell? W4 _ d1)).trans d1, (hb.cell (World.block_lt_of_cell? W4 _ d2)).trans d2⟩
        have hKa : ∀ (wx : World) (o : Obj), (wx.cell? ⟨w.heap.size + 1, 0, none⟩ = some (.map (some w.heap.size)) ∧ wx.cell? ⟨g.fb, 0, none⟩ = some (.slice a l cp)) → ((wx.alloc o).cell? ⟨w.heap.size + 1, 0, none⟩ = some (.map (some w.heap.size)) ∧ (wx.alloc o).cell? ⟨g.fb, 0, none⟩ = some (.slice a l cp)) := fun wx o hx => ⟨(World.cell?_alloc_lt _ _ _ (World.block_lt_of_cell? wx _ hx.1)).trans hx.1, (World.cell?_alloc_lt _ _ _ (World.block_lt_of_cell? wx _ hx.2)).trans hx.2⟩
        have hKb : ∀ (wx : World) (o : Obj), (wx.cell? ⟨w.heap.size + 1, 0, none⟩ = some (.map (some w.heap.size)) ∧ wx.cell? ⟨g.fb, 0, none⟩ = some (.slice a l cp)) → ((setBlock wx w.heap.size o).cell? ⟨w.heap.size + 1, 0, none⟩ = some (.map (some w.heap.size)) ∧ (setBlock wx w.heap.size o).cell? ⟨g.fb, 0, none⟩ = some (.slice a l cp)) := fun wx o hx =>
          have hsb : ∀ k, k ≠ w.heap.size → (setBlock wx w.heap.size o).heap[k]? = wx.heap[k]? := fun k hk => by simp [setBlock, Ne.symm hk]
          ⟨(World.cell?_of_block (hsb (w.heap.size + 1) (Nat.succ_ne_self _))).trans hx.1, (World.cell?_of_block (hsb _ hgm)).trans hx.2⟩
        have HKc := Lib.hid hKc
        have HKa := Lib.hid hKa
        have HKb := Lib.hid hKb
        clear hKc hKa hKb hgm
        go_upto_region 6 with fail
        go_region_held3 (fun w' => w'.cell? ⟨w.heap.size + 1, 0, none⟩ = some (.map (some w.heap.size)) ∧ w'.cell? ⟨g.fb, 0, none⟩ = some (.slice a l cp)) (first | assumption | exact ⟨d1, d2⟩ | exact HKc.out _ hbx | exact HKa.out _ _ (by assumption) | exact HKb.out _ _ (by assumption)) (first | (go_at_call 52; ((with_reducible refine (Hcl.out _ ((Below.refl _ _).drew)).mono ?_); rintro e wx ⟨a', cap', rfl, hcx, hbx⟩; have hupd := Hupd.out wx a' cap' ((Below.refl _ _).drew.trans hbx))))
        rename_i hS
        clear hS hupd Hupd Hcl HKc HKa HKb
        obtain ⟨⟨gb', ha', hro, hnl'⟩, hbx⟩ := And.intro hcx hbx
        have Hcx := Lib.hid (And.intro ha' (And.intro hro (And.intro hnl' hbx)))
        clear hcx ha' hro hnl' hbx
        go_wp2_with fail
        obtain ⟨ha', hro, hnl', hbx⟩ := Hcx.out
        obtain ⟨hD4, hb4, hrW4, hF, hsync⟩ := HD.out
        obtain ⟨hn, hP, hparts, hseenW, hlen, hseen, hnew⟩ := HH.out
        obtain ⟨ha, hl⟩ := Ha.out
        obtain ⟨O, hO⟩ : ∃ O, O = Obj.cells #[Value.slice a' n cap', Value.int IntKind.i64 (n : Int)] 80 (0, 0) := ⟨_, rfl⟩
        rw [← hO]
        obtain ⟨W5, hW5⟩ : ∃ W5, W5 = setBlock (wx.alloc O) w.heap.size (Obj.map (List.map G.entry gs2 ++ [({ key := Value.string g.name, val := Value.pointer (some { block := wx.heap.size, off := 0 }), born := ck2 } : MapEntry)]).toArray (ck2 + 1)) := ⟨_, rfl⟩
        rw [← hW5]
        have hszD : W4.drew.heap.size = W4.heap.size := rfl
        have hsx : W4.heap.size ≤ wx.heap.size := hbx.size
        have hb5 : Below W4.heap.size W4 (wx.alloc O) := ((Below.refl _ _).drew.trans hbx).alloc hbx.size _
        have hD5 := hD4.below hb5
        have hw4 : w.heap.size + 1 < W4.heap.size := hD4.lt (.inl rfl)
        have hiW : W1.heap.size < W4.heap.size := lt_of_block hrW4
        have hother : ∀ k, k ≠ w.heap.size → W5.heap[k]? = (wx.alloc O).heap[k]? := fun k hk => by rw [hW5]; exact setBlock_other hD5.map _ hk
        have hln : (g.bytes.take n).length = n := by rw [List.length_take]; omega
        obtain ⟨g', hg'⟩ : ∃ g' : G, g' = ⟨g.name, wx.heap.size, gb', cap', g.bytes.take n, n, ck2⟩ := ⟨_, rfl⟩
        have hfoot : ∀ k, foot (w.heap.size + 1) w.heap.size gs2 k → k < W4.heap.size := fun k hk => hD4.lt hk
        have hm : W5.heap[w.heap.size]? = some (.map ((gs2 ++ [g']).map G.entry).toArray (ck2 + 1)) := by
          rw [hW5, setBlock_same hD5.map, hg']; simp [G.entry]
        have hgbw : ∀ b, gb' = some b → W4.heap.size ≤ b ∧ b < wx.heap.size := fun b e => ⟨hnl' b e, by have := hro; rw [e] at this; exact this.lt⟩
        have hok5 : g'.ok W5 := by
          rw [hg']
          refine ⟨?_, hro.kept fun b e => ?_, by show n ≤ _; rw [hln]; exact Nat.le_refl _⟩
          · show W5.heap[wx.heap.size]? = _
            rw [hother _ (by omega), heap_alloc_new, hO, ha']
            simp [G.val, hln]
          · have := hgbw b e
            rw [hother _ (by omega), heap_alloc_old _ _ (by omega)]
        have hD6 := hD5.more (W := W5) (g := g') hm (fun k _ hk => hother k hk) (by rw [hg']) hok5 (fun x hx => by rw [hg']; exact hnew x hx) (by rw [hg']; intro hf; have : wx.heap.size < W4.heap.size := hfoot _ hf; omega)
          (fun b e hf => by rw [hg'] at e; have := hgbw b e; have := hfoot b hf; omega)
        have hit : W5.heap[W1.heap.size]? = some (.mapIter (some mb) clock (seen.push g.born) clock) := by
          rw [hother _ (by omega)]; exact (hb5.block _ hiW).trans hrW4
        refine ⟨⟨seen.push g.born, clock, gs2 ++ [g'], ck2 + 1, hit, Nat.le_refl _, hD6, ?_, ?_, ?_⟩, ?_⟩
        · have e1 : g'.abs = flost keep g.abs := by rw [hg', hn]; rfl
          have p1 : ((came gs (seen.push g.born)).map G.abs).map (flost keep) |>.Perm (flost keep g.abs :: ((came gs seen).map G.abs).map (flost keep)) := (hparts.1.map G.abs).map (flost keep)
          rw [List.map_append, List.map_singleton, e1]
          exact (List.perm_append_singleton _ _).trans ((hP.cons _).trans p1.symm)
        · rintro k (rfl | rfl | ⟨x, hx, hxe⟩)
          · omega
          · omega
          · rcases List.mem_append.1 hx with hx | hx
            · exact hF k (.inr (.inr ⟨x, hx, hxe⟩))
            · rw [List.mem_singleton.1 hx, hg'] at hxe
              rcases hxe with e | e
              · simp only at e; omega
              · have := hgbw k e; omega
        · have hb6 : Below w.heap.size w (wx.alloc O) := hb4.trans (hb5.mono (by omega))
          refine ⟨?_, ?_, ?_, ?_, fun k hk => (hother k (by omega)).trans (hb6.block k hk)⟩
          · rw [hW5]; exact hb6.os
          · rw [hW5]; exact hb6.tape
          · rw [hW5]; exact hb6.output
          · rw [hW5]; have := hb6.size; simpa [setBlock] using this
        · have hs5 : W5.iterSeen W1.heap.size = seen.push g.born := by unfold World.iterSeen; rw [hit]
          rw [hs5, hseen]; exact hlen
end
end Go.Proofs.Ytmjeanbbhacnaaa

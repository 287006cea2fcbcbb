/- The walk of the law RecordMends. No condition. -/
import Derived.Test.YtmjeanbbhacnaaaRecSame
import Derived.Test.YtmjeanbbhacnaaaRecReplMath
namespace Go.Proofs.Ytmjeanbbhacnaaa
open Go.RowKit
attribute [local go_sem ↓] Go.wp_at_zero Go.wp_at_succ
theorem oneL_take {l t : List UInt8} (h : oneL l = some t) (q : Nat) (hq : t.length + 8 ≤ q) : oneL (l.take q) = some t := by
  obtain ⟨hl, _⟩ := oneL_length h
  unfold oneL at h ⊢
  by_cases h1 : l.length < 8
  · rw [if_pos h1] at h; cases h
  · rw [if_neg h1] at h
    by_cases h2 : 65536 < (num4 l).toNat ∨ l.length - 8 < (num4 l).toNat
    · rw [if_pos h2] at h; cases h
    · rw [if_neg h2] at h
      by_cases h3 : CrcM.more (CrcM.sum (l.take 4)) ((l.drop 8).take (num4 l).toNat) = num4 (l.drop 4)
      · rw [if_pos h3] at h
        simp only [Option.some.injEq] at h
        have hn : (num4 l).toNat = t.length := by rw [← h, List.length_take, List.length_drop]; omega
        have e1 : num4 (l.take q) = num4 l := num4_take l q (by omega)
        have e2 : (l.take q).length = min q l.length := List.length_take
        have e3 : ((l.take q).drop 8).take (num4 l).toNat = (l.drop 8).take (num4 l).toNat := by
          rw [List.drop_take, List.take_take, Nat.min_eq_left (by omega)]
        have e4 : (l.take q).take 4 = l.take 4 := by rw [List.take_take, Nat.min_eq_left (by omega)]
        have e5 : num4 ((l.take q).drop 4) = num4 (l.drop 4) := by rw [List.drop_take, num4_take _ _ (by omega)]
        rw [e1, e2, e3, e4, e5, if_neg (by omega), if_neg (by omega), if_pos h3, h]
      · rw [if_neg h3] at h; cases h
theorem Fr.take {l : List UInt8} {ts : List (List UInt8)} {p : Nat} (h : Fr l ts p) (q : Nat) (hq : p ≤ q) : Fr (l.take q) ts p := by
  induction h with
  | nil => exact Fr.nil
  | @snoc ts p t h1 h2 ih =>
    refine (ih (by omega)).snoc ?_
    rw [List.drop_take]
    exact oneL_take h2 _ (by omega)
/-- What is framed of bytes, alone, has the same texts. -/
theorem framesL_cut (l : List UInt8) : framesL (l.take (fsize (framesL l))) = framesL l ∧ fsize (framesL l) ≤ l.length := by
  obtain ⟨p, h, hp, hl⟩ := framesL_size l
  rw [← hp]
  refine ⟨(h.take p (Nat.le_refl _)).done ?_, hl⟩
  rw [List.drop_eq_nil_of_le (by rw [List.length_take]; omega)]
  rfl
theorem mend_file (C : List UInt8) (k : Nat) (hC : C.length ≤ 1000) :
    ∃ F', St.mend nF ⟨[⟨nF, C, k⟩], 100000, -1, 0, false⟩ = (⟨F', 100000, -1, 0, false⟩, 0) ∧ rdL ⟨F', 100000, -1, 0, false⟩ nF = C.take (fsize (framesL C)) ∧ St.mend nF ⟨F', 100000, -1, 0, false⟩ = (⟨F', 100000, -1, 0, false⟩, 0) := by
  obtain ⟨hcut, hle⟩ := framesL_cut C
  have hr : ∀ (X : List UInt8) (i : Nat), rdL ⟨[⟨nF, X, i⟩], 100000, -1, 0, false⟩ nF = X := fun X i => by unfold rdL; rw [(rd_one _ _ _).1]
  have hagain : ∀ F', rdL ⟨F', 100000, -1, 0, false⟩ nF = C.take (fsize (framesL C)) → St.mend nF ⟨F', 100000, -1, 0, false⟩ = (⟨F', 100000, -1, 0, false⟩, 0) := fun F' h => by
    unfold St.mend
    rw [h, hcut, if_neg (by rw [List.length_take]; omega)]
  by_cases hlt : fsize (framesL C) < C.length
  · have hm : St.mend nF ⟨[⟨nF, C, k⟩], 100000, -1, 0, false⟩ = St.swap nF (C.take (fsize (framesL C))) ⟨[⟨nF, C, k⟩], 100000, -1, 0, false⟩ := by unfold St.mend; rw [hr, if_pos hlt]
    have c0 : St.clean nF ⟨[⟨nF, C, k⟩], 100000, -1, 0, false⟩ = (⟨[⟨nF, C, k⟩], 100000, -1, 0, false⟩, 0) := by
      unfold St.clean; rw [newF, if_neg (by rw [new_none ne2]; decide)]
    obtain ⟨X, hX⟩ : ∃ X, X = C.take (fsize (framesL C)) := ⟨_, rfl⟩
    have hXl : X.length ≤ 1000 := by rw [hX, List.length_take]; omega
    by_cases hz : X = []
    · refine ⟨[], ?_, ?_, hagain [] ?_⟩
      · rw [hm, ← hX]
        unfold St.swap
        rw [if_pos hz]
        have c1 : St.del nF ⟨[⟨nF, C, k⟩], 100000, -1, 0, false⟩ = (⟨[], 100000, -1, 0, false⟩, 0) := by
          unfold St.del; rw [St.deed_ok (by simp [fget])]; simp [fdel]
        simp only [St.until, c0, c1, if_true]
      · rw [← hX, hz]; rfl
      · rw [← hX, hz]; rfl
    · refine ⟨[⟨nF, X, X.length⟩], ?_, by rw [hr, hX], hagain _ (by rw [hr, hX])⟩
      rw [hm, ← hX]
      unfold St.swap
      rw [if_neg hz, newF]
      have c1 : St.app nFN X ⟨[⟨nF, C, k⟩], 100000, -1, 0, false⟩ = (⟨[⟨nF, C, k⟩, ⟨nFN, X, 0⟩], 100000, -1, 0, false⟩, 0) := by
        unfold St.app; rw [St.append_ok (by rw [ftotal_one]; omega)]; simp [flay, fget, fput, ne2]
      have c2 : St.sync nFN ⟨[⟨nF, C, k⟩, ⟨nFN, X, 0⟩], 100000, -1, 0, false⟩ = (⟨[⟨nF, C, k⟩, ⟨nFN, X, X.length⟩], 100000, -1, 0, false⟩, 0) := by
        unfold St.sync; rw [St.deed_ok (by simp [fget, ne2])]; simp [fsync, fget, fput, ne2]
      have c3 : St.ren nFN nF ⟨[⟨nF, C, k⟩, ⟨nFN, X, X.length⟩], 100000, -1, 0, false⟩ = (⟨[⟨nF, X, X.length⟩], 100000, -1, 0, false⟩, 0) := by
        unfold St.ren; rw [St.deed_ok (by simp [fget, ne2])]; simp [frename, fget, fput, fdel, ne2]
      simp only [St.until, c0, c1, c2, c3, if_true]
  · have he : C.take (fsize (framesL C)) = C := List.take_of_length_le (by omega)
    refine ⟨[⟨nF, C, k⟩], ?_, by rw [hr, he], ?_⟩
    · unfold St.mend; rw [hr, if_neg hlt]
    · unfold St.mend; rw [hr, if_neg hlt]
/-- The file behind texts that were added. -/
def addF (ts : List (List UInt8)) : List Fi := if ts = [] then [] else [⟨nF, frameAll ts, (frameAll ts).length⟩]
theorem addF_step (ts : List (List UInt8)) (t : List UInt8) (hts : (frameAll ts).length ≤ 10000) (ht : t.length ≤ 1000) : St.add nF t ⟨addF ts, 100000, -1, 0, false⟩ = (⟨addF (ts ++ [t]), 100000, -1, 0, false⟩, 0) := by
  have lt : (frameL t).length = t.length + 8 := frameL_length t
  have hne : ts ++ [t] ≠ [] := by simp
  unfold St.add
  rw [if_neg (by omega)]
  have c1 : ∃ k, St.app nF (frameL t) ⟨addF ts, 100000, -1, 0, false⟩ = (⟨[⟨nF, frameAll (ts ++ [t]), k⟩], 100000, -1, 0, false⟩, 0) := by
    unfold St.app addF
    by_cases h : ts = []
    · subst h
      exact ⟨0, by rw [if_pos rfl, St.append_ok (by simp [ftotal]; omega), flay_zero]; simp [frameAll]⟩
    · exact ⟨(frameAll ts).length, by rw [if_neg h, St.append_ok (by rw [ftotal_one]; omega), flay_one, frameAll_snoc]⟩
  obtain ⟨k, c1⟩ := c1
  have c2 : St.sync nF ⟨[⟨nF, frameAll (ts ++ [t]), k⟩], 100000, -1, 0, false⟩ = (⟨addF (ts ++ [t]), 100000, -1, 0, false⟩, 0) := by
    unfold St.sync addF; rw [St.deed_ok (by simp [fget]), fsync_one, if_neg hne]
  simp only [St.until, c1, c2, if_true]
theorem addF_append (ts : List (List UInt8)) (m : List UInt8) (hts : (frameAll ts).length ≤ 10000) (hm : m.length ≤ 1000) : ∃ k, St.append ⟨addF ts, 100000, -1, 0, false⟩ nF m = (⟨[⟨nF, frameAll ts ++ m, k⟩], 100000, -1, 0, false⟩, 0) := by
  unfold addF
  by_cases h : ts = []
  · subst h
    exact ⟨0, by rw [if_pos rfl, St.append_ok (by simp [ftotal]; omega), flay_zero]; simp [frameAll]⟩
  · exact ⟨(frameAll ts).length, by rw [if_neg h, St.append_ok (by rw [ftotal_one]; omega), flay_one]⟩
theorem fsize_le (ts : List (List UInt8)) (n : Nat) (h : ∀ t ∈ ts, t.length ≤ n) : fsize ts ≤ (n + 8) * ts.length := by
  induction ts with
  | nil => exact Nat.zero_le _
  | cons t ts ih =>
    have h1 := h t List.mem_cons_self
    have h2 := ih fun x hx => h x (List.mem_cons_of_mem t hx)
    have e : fsize (t :: ts) = (t.length + 8) + fsize ts := by simp [fsize]
    rw [e, List.length_cons, Nat.mul_add]
    omega
theorem SRowO.keepT {w w' : World} {gb : Option Nat} {cap : Nat} {ns : List ByteArray} (h : SRowO w gb cap ns) (hk : KeepT w w') : SRowO w' gb cap ns := by
  cases gb with
  | none => exact h
  | some b =>
    obtain ⟨row, h1, r⟩ := h
    exact ⟨row, hk _ _ _ _ (by decide) (by decide) (by decide) h1, r⟩
theorem lists_inj {a b : List ByteArray} (h : a.map (·.data.toList) = b.map (·.data.toList)) : a = b := by
  induction a generalizing b with
  | nil => cases b with
    | nil => rfl
    | cons y r => simp at h
  | cons x l ih => cases b with
    | nil => simp at h
    | cons y r =>
      simp only [List.map_cons, List.cons.injEq] at h
      rw [ih h.2]
      congr 1
      apply ByteArray.ext
      exact Array.toList_inj.1 h.1
set_option maxRecDepth 100000 in
set_option maxHeartbeats 1600000 in
theorem mends_walk (v : Value) (ss : List ByteArray) (more : ByteArray) (w : World) (hv : StrArg w v ss) :
    Calls Try.prog 10 #[v, .string more] w fun e w' => e = .returned (.bool true) ∧ Below w.heap.size w w' := by
  have hvb := fun w' (hb : Below w.heap.size w w') => hv.below hb
  obtain ⟨a, len, cap, rfl, k2, k3, k4, k5⟩ := hv
  have H := Lib.hid (@examples07)
  have HV := Lib.hid (And.intro hvb k2)
  clear hvb k2 k3 k5
  go_enter Try.func10, Try.ntmps10
  go_wp2_with fail
  refine (H.out w).mono ?_
  rintro e w1 ⟨rfl, hb1⟩
  go_wp2_with fail
  refine (new_one hb1 100000 (by omega) (by omega)).mono ?_
  rintro e w2 ⟨d, rfl, hO⟩
  clear hb1
  have HO := Lib.hid hO
  clear hO
  go_wp2_with fail
  go_loopw [8] (fun i wr => ∃ (j : Nat) (ts : List (List UInt8)), i = .int .i64 j ∧ (j : Int) ≤ 5 ∧ ts.length = j ∧ (∀ t ∈ ts, t.length ≤ 50) ∧ One w wr d ⟨addF ts, 100000, -1, 0, false⟩) (fun i _ => 5 - (intOf i).toNat)
  case atStart => exact ⟨0, [], rfl, by omega, rfl, (fun t ht => by cases ht), HO.out⟩
  case round =>
    obtain ⟨j, ts, rfl, hj, htl, hts, hOj⟩ := hrel
    have hj0 : (0 : Int) ≤ (j : Int) := by omega
    have hfl : (frameAll ts).length ≤ 290 := by
      rw [frameAll_length]
      have := fsize_le ts 50 hts
      rw [htl] at this
      omega
    by_cases hlt : (j : Int) < (len : Int) ∧ (j : Int) < 5
    · obtain ⟨hl1, hl2⟩ := hlt
      obtain ⟨x1, len1, cap1, e1, g1, _, _, g2⟩ := HV.out.1 wr hOj.world
      have hk := HV.out.2
      simp only [Value.slice.injEq] at e1
      obtain ⟨rfl, rfl, rfl⟩ := e1
      obtain ⟨b1, rfl, hbl, c1⟩ := g2 j (by omega)
      obtain ⟨x, hx⟩ : ∃ x, x = ss[j]'(by omega) := ⟨_, rfl⟩
      rw [← hx] at c1
      have hkc : ∀ w', Below w.heap.size w w' → w'.cell? (b1.add j) = some (.string x) := fun w' hb => by
        obtain ⟨y1, _, _, ee, _, _, _, gg⟩ := HV.out.1 w' hb
        simp only [Value.slice.injEq] at ee
        obtain ⟨rfl, _, _⟩ := ee
        obtain ⟨b2, hb2, _, c2⟩ := gg j (by omega)
        simp only [Option.some.injEq] at hb2
        rw [hb2, c2, hx]
      have Hkc := Lib.hid hkc
      clear hkc hx g1 g2 hk hbl
      have hOd : One w wr.drew d ⟨addF ts, 100000, -1, 0, false⟩ := hOj.below ⟨rfl, rfl, rfl, Nat.le_refl _, fun _ _ => rfl⟩
      have cd : wr.drew.cell? (b1.add j) = some (.string x) := Hkc.out _ hOd.world
      have hys : (x.extract 0 (min (x.size : Int) 50).toNat).data.toList.length ≤ 50 := by rw [cut_list, List.length_take]; omega
      have hadd := add_one hOd ⟨#[102]⟩ (x.extract 0 (min (x.size : Int) 50).toNat) (addF_step ts (x.extract 0 (min (x.size : Int) 50).toNat).data.toList (by omega) (by omega))
      have Hadd := Lib.hid hadd
      have hnew : (ts ++ [(x.extract 0 (min (x.size : Int) 50).toNat).data.toList]).length = j + 1 ∧ ∀ t ∈ ts ++ [(x.extract 0 (min (x.size : Int) 50).toNat).data.toList], t.length ≤ 50 := by
        refine ⟨by rw [List.length_append, htl]; rfl, fun t ht => ?_⟩
        rcases List.mem_append.1 ht with ht | ht
        · exact hts t ht
        · rw [List.mem_singleton.1 ht]; exact hys
      have Hnew := Lib.hid hnew
      clear hadd hnew hOj hOd hts htl hfl hys
      have m0 : (0 : Int) ≤ min (x.size : Int) 50 := by omega
      have m1 : min (x.size : Int) 50 ≤ (x.size : Int) := by omega
      go_upto_region 10 with fail
      go_region_held3 (fun w' => w'.cell? (b1.add j) = some (.string x)) (first | assumption | exact Hkc.out _ (And.left hbx).world) (first | (go_at_call 41; ((with_reducible refine (Hadd.out).mono ?_); rintro e wx ⟨rfl, hbx⟩)))
      rename_i hS
      clear hS cd
      have Hb := Lib.hid hbx.1
      clear hbx
      go_wp2_with fail
      exact ⟨⟨j + 1, _, by go_num, by omega, Hnew.out.1, Hnew.out.2, Hb.out⟩, by simp [intOf]; omega⟩
    · have happ : ∀ M : ByteArray, M.size ≤ 100 → Calls Try.prog 17 #[.pointer (some ⟨d, 0, none⟩), .string ⟨#[102]⟩, .string M] wr fun e w' => ∃ C k, e = .returned (.int .i64 0) ∧ C.length ≤ 1000 ∧ One w w' d ⟨[⟨nF, C, k⟩], 100000, -1, 0, false⟩ := fun M hM => by
        obtain ⟨k, hk⟩ := addF_append ts M.data.toList (by omega) (by rw [list_size]; omega)
        refine (append_one hOj ⟨#[102]⟩ M (by omega) hk).mono ?_
        rintro e w' ⟨rfl, hO⟩
        exact ⟨_, k, rfl, by rw [List.length_append, list_size]; omega, hO⟩
      have Happ := Lib.hid happ
      clear happ hOj hts htl hfl
      have hor : ((j : Int) < (len : Int) ∧ ¬ (j : Int) < 5) ∨ ¬ (j : Int) < (len : Int) := by omega
      rcases hor with ⟨hl1, hl2⟩ | hl1
      · go_wp2_with fail
        all_goals
          refine (Happ.out _ (by first | (simp; omega) | omega)).mono ?_
          rintro e w3 ⟨C, k, rfl, hC, hO3⟩
          obtain ⟨F', q1, q2, q3⟩ := mend_file C k hC
          have r1 : rdL ⟨[⟨nF, C, k⟩], 100000, -1, 0, false⟩ ⟨#[102]⟩ = C := by unfold rdL; exact congrArg (fun z : ByteArray => z.data.toList) (rd_one _ _ _).1
          have ha3 := all_one hO3 ⟨#[102]⟩
          rw [r1] at ha3
          have Q := Lib.hid (And.intro q1 (And.intro q2 (And.intro q3 hC)))
          have Ha3 := Lib.hid ha3
          clear ha3 hO3 r1 q1 q2 q3 hC
          go_wp2_with fail
          refine Ha3.out.mono ?_
          rintro e w4 ⟨gb, cap4, ns, rfl, hR4, hns, hO4, hb4⟩
          have ha4 := mend_one hO4 ⟨#[102]⟩ (by decide) Q.out.1
          have Ha4 := Lib.hid (And.intro ha4 (And.intro hR4 hns))
          clear ha4 hR4 hns hO4 hb4 Ha3
          obtain ⟨a4, ha4⟩ : ∃ a : Option Addr, a = gb.map fun b => ⟨b, 0, none⟩ := ⟨_, rfl⟩
          obtain ⟨l4, hl4⟩ : ∃ l, l = ns.length := ⟨_, rfl⟩
          rw [← ha4, ← hl4]
          have E4 := Lib.hid (And.intro ha4 hl4)
          clear ha4 hl4
          go_wp2_with fail
          refine Ha4.out.1.mono ?_
          rintro e w5 ⟨rfl, hO5, hK5⟩
          have ha5 := all_one hO5 ⟨#[102]⟩
          have hR5 := Ha4.out.2.1.keepT hK5
          have hns := Ha4.out.2.2
          have Ha5 := Lib.hid (And.intro ha5 (And.intro hR5 hns))
          clear ha5 hR5 hns hO5 hK5 Ha4
          go_wp2_with fail
          refine Ha5.out.1.mono ?_
          rintro e w6 ⟨gb6, cap6, ns6, rfl, hR6, hns6, hO6, hb6⟩
          have hR46 := Ha5.out.2.1.keepT (KeepT.below hb6)
          have hq : framesL (rdL ⟨F', 100000, -1, 0, false⟩ ⟨#[102]⟩) = framesL C := by rw [show rdL ⟨F', 100000, -1, 0, false⟩ ⟨#[102]⟩ = _ from Q.out.2.1, (framesL_cut C).1]
          rw [hq] at hns6
          obtain rfl : ns6 = ns := lists_inj (hns6.trans Ha5.out.2.2.symm)
          have hread := read_one hO6 ⟨#[102]⟩
          obtain ⟨X, hX⟩ : ∃ X, X = rdText F' ⟨#[102]⟩ := ⟨_, rfl⟩
          have hXl : X.data.toList = C.take (fsize (framesL C)) := by rw [hX]; exact Q.out.2.1
          have hXs : X.size = fsize (framesL C) := by rw [← list_size, hXl, List.length_take]; have := (framesL_cut C).2; omega
          have hXb : X.size ≤ 1000 := by rw [hXs]; have := (framesL_cut C).2; have := Q.out.2.2.2; omega
          have hnl : ns6.length ≤ 9223372036854775807 := by
            have h1 : ns6.length = (framesL C).length := by rw [← hns6, List.length_map]
            obtain ⟨p, hp, _, hpl⟩ := framesL_size C
            have := hp.size
            have := Q.out.2.2.2
            omega
          rw [show rdText (⟨F', 100000, -1, 0, false⟩ : St).files ⟨#[102]⟩ = X from hX.symm] at hread
          have hfr := frames_any X (by omega) w6
          rw [hXl, (framesL_cut C).1, ← hXs] at hfr
          have Hm := Lib.hid (And.intro hread (And.intro hfr (And.intro hR46 (And.intro hR6 (And.intro hO6 (And.intro hnl hX))))))
          obtain ⟨a6, ha6⟩ : ∃ a : Option Addr, a = gb6.map fun b => ⟨b, 0, none⟩ := ⟨_, rfl⟩
          obtain ⟨l6, hl6⟩ : ∃ l, l = ns6.length := ⟨_, rfl⟩
          rw [← ha6, ← hl6]
          have E6 := Lib.hid (And.intro ha6 hl6)
          have hXi : (X.size : Int) ≤ 1000 := by omega
          clear ha6 hl6 hread hfr hR46 hR6 hO6 hb6 hns6 hq hX hXl hXs hXb hnl Ha5
          go_wp2_with fail
          refine Hm.out.1.mono ?_
          rintro e w7 ⟨rfl, rfl⟩
          go_wp2_with fail
          refine Hm.out.2.1.mono ?_
          rintro e w8 ⟨gb8, cap8, ns8, rfl, hR8, hb8⟩
          clear hR8
          obtain ⟨a8, ha8⟩ : ∃ a : Option Addr, a = gb8.map fun b => ⟨b, 0, none⟩ := ⟨_, rfl⟩
          obtain ⟨l8, hl8⟩ : ∃ l, l = ns8.length := ⟨_, rfl⟩
          rw [← ha8, ← hl8]
          clear ha8 hl8
          obtain ⟨_, _, hR46, hR6, hO6, hnl, hX⟩ := Hm.out
          have hO8 := hO6.below hb8
          have hR48 := hR46.keepT (KeepT.below hb8)
          have hR68 := hR6.keepT (KeepT.below hb8)
          have ha9 := mend_one hO8 ⟨#[102]⟩ (by decide) Q.out.2.2.1
          have Ha9 := Lib.hid (And.intro ha9 (And.intro hR48 (And.intro hR68 (And.intro hnl hX))))
          clear ha9 hR46 hR6 hO6 hnl hX hO8 hR48 hR68 hb8 Hm
          go_wp2_with fail
          refine Ha9.out.1.mono ?_
          rintro e w9 ⟨rfl, hO9, hK9⟩
          obtain ⟨_, hR48, hR68, hnl, hX⟩ := Ha9.out
          have hread := read_one hO9 ⟨#[102]⟩
          rw [show rdText (⟨F', 100000, -1, 0, false⟩ : St).files ⟨#[102]⟩ = X from hX.symm] at hread
          have hsame : Calls Try.prog 30 #[.slice a4 l4 cap4, .slice a6 l6 cap6] w9 fun e w' => e = .returned (.bool true) ∧ Below w9.heap.size w9 w' := by
            rw [E4.out.1, E4.out.2, E6.out.1, E6.out.2]
            exact same_true ((hR48.keepT hK9).arg hnl) ((hR68.keepT hK9).arg hnl)
          have Ha10 := Lib.hid (And.intro hread (And.intro hsame hO9.world))
          clear hread hsame hR48 hR68 hnl hX hO9 hK9 Ha9
          go_wp2_with fail
          refine Ha10.out.1.mono ?_
          rintro e w10 ⟨rfl, rfl⟩
          go_wp2_with fail
          refine Ha10.out.2.1.mono ?_
          rintro e w11 ⟨rfl, hb11⟩
          have Hf := Lib.hid (Ha10.out.2.2.trans (hb11.mono Ha10.out.2.2.size))
          clear hb11
          go_wp2_with fail
          go_ret
          exact ⟨rfl, Hf.out⟩
      · go_wp2_with fail
        all_goals
          refine (Happ.out _ (by first | (simp; omega) | omega)).mono ?_
          rintro e w3 ⟨C, k, rfl, hC, hO3⟩
          obtain ⟨F', q1, q2, q3⟩ := mend_file C k hC
          have r1 : rdL ⟨[⟨nF, C, k⟩], 100000, -1, 0, false⟩ ⟨#[102]⟩ = C := by unfold rdL; exact congrArg (fun z : ByteArray => z.data.toList) (rd_one _ _ _).1
          have ha3 := all_one hO3 ⟨#[102]⟩
          rw [r1] at ha3
          have Q := Lib.hid (And.intro q1 (And.intro q2 (And.intro q3 hC)))
          have Ha3 := Lib.hid ha3
          clear ha3 hO3 r1 q1 q2 q3 hC
          go_wp2_with fail
          refine Ha3.out.mono ?_
          rintro e w4 ⟨gb, cap4, ns, rfl, hR4, hns, hO4, hb4⟩
          have ha4 := mend_one hO4 ⟨#[102]⟩ (by decide) Q.out.1
          have Ha4 := Lib.hid (And.intro ha4 (And.intro hR4 hns))
          clear ha4 hR4 hns hO4 hb4 Ha3
          obtain ⟨a4, ha4⟩ : ∃ a : Option Addr, a = gb.map fun b => ⟨b, 0, none⟩ := ⟨_, rfl⟩
          obtain ⟨l4, hl4⟩ : ∃ l, l = ns.length := ⟨_, rfl⟩
          rw [← ha4, ← hl4]
          have E4 := Lib.hid (And.intro ha4 hl4)
          clear ha4 hl4
          go_wp2_with fail
          refine Ha4.out.1.mono ?_
          rintro e w5 ⟨rfl, hO5, hK5⟩
          have ha5 := all_one hO5 ⟨#[102]⟩
          have hR5 := Ha4.out.2.1.keepT hK5
          have hns := Ha4.out.2.2
          have Ha5 := Lib.hid (And.intro ha5 (And.intro hR5 hns))
          clear ha5 hR5 hns hO5 hK5 Ha4
          go_wp2_with fail
          refine Ha5.out.1.mono ?_
          rintro e w6 ⟨gb6, cap6, ns6, rfl, hR6, hns6, hO6, hb6⟩
          have hR46 := Ha5.out.2.1.keepT (KeepT.below hb6)
          have hq : framesL (rdL ⟨F', 100000, -1, 0, false⟩ ⟨#[102]⟩) = framesL C := by rw [show rdL ⟨F', 100000, -1, 0, false⟩ ⟨#[102]⟩ = _ from Q.out.2.1, (framesL_cut C).1]
          rw [hq] at hns6
          obtain rfl : ns6 = ns := lists_inj (hns6.trans Ha5.out.2.2.symm)
          have hread := read_one hO6 ⟨#[102]⟩
          obtain ⟨X, hX⟩ : ∃ X, X = rdText F' ⟨#[102]⟩ := ⟨_, rfl⟩
          have hXl : X.data.toList = C.take (fsize (framesL C)) := by rw [hX]; exact Q.out.2.1
          have hXs : X.size = fsize (framesL C) := by rw [← list_size, hXl, List.length_take]; have := (framesL_cut C).2; omega
          have hXb : X.size ≤ 1000 := by rw [hXs]; have := (framesL_cut C).2; have := Q.out.2.2.2; omega
          have hnl : ns6.length ≤ 9223372036854775807 := by
            have h1 : ns6.length = (framesL C).length := by rw [← hns6, List.length_map]
            obtain ⟨p, hp, _, hpl⟩ := framesL_size C
            have := hp.size
            have := Q.out.2.2.2
            omega
          rw [show rdText (⟨F', 100000, -1, 0, false⟩ : St).files ⟨#[102]⟩ = X from hX.symm] at hread
          have hfr := frames_any X (by omega) w6
          rw [hXl, (framesL_cut C).1, ← hXs] at hfr
          have Hm := Lib.hid (And.intro hread (And.intro hfr (And.intro hR46 (And.intro hR6 (And.intro hO6 (And.intro hnl hX))))))
          obtain ⟨a6, ha6⟩ : ∃ a : Option Addr, a = gb6.map fun b => ⟨b, 0, none⟩ := ⟨_, rfl⟩
          obtain ⟨l6, hl6⟩ : ∃ l, l = ns6.length := ⟨_, rfl⟩
          rw [← ha6, ← hl6]
          have E6 := Lib.hid (And.intro ha6 hl6)
          have hXi : (X.size : Int) ≤ 1000 := by omega
          clear ha6 hl6 hread hfr hR46 hR6 hO6 hb6 hns6 hq hX hXl hXs hXb hnl Ha5
          go_wp2_with fail
          refine Hm.out.1.mono ?_
          rintro e w7 ⟨rfl, rfl⟩
          go_wp2_with fail
          refine Hm.out.2.1.mono ?_
          rintro e w8 ⟨gb8, cap8, ns8, rfl, hR8, hb8⟩
          clear hR8
          obtain ⟨a8, ha8⟩ : ∃ a : Option Addr, a = gb8.map fun b => ⟨b, 0, none⟩ := ⟨_, rfl⟩
          obtain ⟨l8, hl8⟩ : ∃ l, l = ns8.length := ⟨_, rfl⟩
          rw [← ha8, ← hl8]
          clear ha8 hl8
          obtain ⟨_, _, hR46, hR6, hO6, hnl, hX⟩ := Hm.out
          have hO8 := hO6.below hb8
          have hR48 := hR46.keepT (KeepT.below hb8)
          have hR68 := hR6.keepT (KeepT.below hb8)
          have ha9 := mend_one hO8 ⟨#[102]⟩ (by decide) Q.out.2.2.1
          have Ha9 := Lib.hid (And.intro ha9 (And.intro hR48 (And.intro hR68 (And.intro hnl hX))))
          clear ha9 hR46 hR6 hO6 hnl hX hO8 hR48 hR68 hb8 Hm
          go_wp2_with fail
          refine Ha9.out.1.mono ?_
          rintro e w9 ⟨rfl, hO9, hK9⟩
          obtain ⟨_, hR48, hR68, hnl, hX⟩ := Ha9.out
          have hread := read_one hO9 ⟨#[102]⟩
          rw [show rdText (⟨F', 100000, -1, 0, false⟩ : St).files ⟨#[102]⟩ = X from hX.symm] at hread
          have hsame : Calls Try.prog 30 #[.slice a4 l4 cap4, .slice a6 l6 cap6] w9 fun e w' => e = .returned (.bool true) ∧ Below w9.heap.size w9 w' := by
            rw [E4.out.1, E4.out.2, E6.out.1, E6.out.2]
            exact same_true ((hR48.keepT hK9).arg hnl) ((hR68.keepT hK9).arg hnl)
          have Ha10 := Lib.hid (And.intro hread (And.intro hsame hO9.world))
          clear hread hsame hR48 hR68 hnl hX hO9 hK9 Ha9
          go_wp2_with fail
          refine Ha10.out.1.mono ?_
          rintro e w10 ⟨rfl, rfl⟩
          go_wp2_with fail
          refine Ha10.out.2.1.mono ?_
          rintro e w11 ⟨rfl, hb11⟩
          have Hf := Lib.hid (Ha10.out.2.2.trans (hb11.mono Ha10.out.2.2.size))
          clear hb11
          go_wp2_with fail
          go_ret
          exact ⟨rfl, Hf.out⟩
end Go.Proofs.Ytmjeanbbhacnaaa

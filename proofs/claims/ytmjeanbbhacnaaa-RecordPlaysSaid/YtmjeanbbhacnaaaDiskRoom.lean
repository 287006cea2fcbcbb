/- The walk of the law DiskRoom. No condition. -/
import Derived.Test.YtmjeanbbhacnaaaDiskApart
import Derived.Deep.QuietTactic
import Derived.BigQuiet
namespace Go.Proofs.Ytmjeanbbhacnaaa
open Go.RowKit
/-- Blocks of other types stay. -/
def KeepT (w w' : World) : Prop := ∀ (b : Nat) (row : Array Value) (t : TypeId) (fr : Nat × Nat), t ≠ 72 → t ≠ 80 → t ≠ 5 → w.heap[b]? = some (.cells row t fr) → w'.heap[b]? = some (.cells row t fr)
section
variable {W0 w : World} {d d2 : Nat} {st st2 : St}
theorem Turns.keepT {F : Nat → Prop} {st' : St} {w' : World} (h : At w d st F) (ht : Turns w d F st' w') : KeepT w w' := by
  intro b row t fr h1 h2 h3 hb
  obtain ⟨F', _, he⟩ := ht
  obtain ⟨mb, gs, ck, hd, _, rfl, _⟩ := h
  exact (he.keep b (lt_of_block hb) (hd.not_foot hb h1 h2 h3)).trans hb
theorem Calls.oneK {f : FuncId} {args : Array Value} {E : Ending → Prop} {st' : St} (h : One W0 w d st) (hc : ∀ F, At w d st F → Calls Try.prog f args w fun e w' => E e ∧ Turns w d F st' w') :
    Calls Try.prog f args w fun e w' => E e ∧ One W0 w' d st' ∧ KeepT w w' := by
  obtain ⟨F, h1, h2, h3⟩ := h
  refine (hc F h1).mono ?_
  rintro e w' ⟨he, ht⟩
  exact ⟨he, One.turn h2 h3 ht, Turns.keepT h1 ht⟩
end
theorem run_make_bytes (w : World) (n : Nat) (hn : n ≤ 1099511627776) : (Instr.makeSlice 51 (.int .i64 (n : Int)) (.int .i64 (n : Int))).run Try.prog w =
    .ok (.slice (some ⟨w.heap.size, 0, none⟩) n n) (w.alloc (.cells (bcells (List.replicate n 0)).toArray 5)) := by
  obtain ⟨i, hi, hz, hsz, hby⟩ := info_parts info_byte
  have h := run_make w (P := Try.prog) 51 5 i (.int .u8 0) Try.underlying51 hi hz .i64 .i64 (n : Int) (n : Int) (by omega) (Int.le_refl _) (by rw [hby]; omega) (by omega)
  rw [hsz, show (Value.int .u8 0).cells = #[.int .u8 0] from rfl, Nat.mul_one, Int.toNat_natCast, bcells_zero] at h
  exact h
theorem run_zeros (w : World) (n : Nat) : (convert 51 9 (.slice (some ⟨w.heap.size, 0, none⟩) n n)).run Try.prog (w.alloc (.cells (bcells (List.replicate n 0)).toArray 5)) =
    .ok (.string ⟨(List.replicate n 0).toArray⟩) (w.alloc (.cells (bcells (List.replicate n 0)).toArray 5)) := by
  have h := run_string_row (P := Try.prog) (w := w.alloc (.cells (bcells (List.replicate n 0)).toArray 5)) n (List.replicate n 0) (heap_alloc_new w _)
  rw [List.length_replicate] at h
  exact (run_convert_bytes_string _ 51 9 5 _ _ _ Try.underlying51 Try.underlying5 Try.underlying9).trans h
/-- The file f, or none. -/
def FOne (F : List Fi) : Prop := F = [] ∨ ∃ X k, F = [⟨⟨#[102]⟩, X, k⟩]
theorem FOne.lay {F : List Fi} (h : FOne F) (s : List UInt8) : FOne (flay F ⟨#[102]⟩ s) ∧ ftotal (flay F ⟨#[102]⟩ s) = ftotal F + s.length := by
  rcases h with rfl | ⟨X, k, rfl⟩
  · rw [flay_zero]; exact ⟨.inr ⟨_, _, rfl⟩, by simp [ftotal]⟩
  · rw [flay_one]; exact ⟨.inr ⟨_, _, rfl⟩, by simp [ftotal]⟩
theorem FOne.del {F : List Fi} (h : FOne F) (n : Int) : ∃ x, St.deed ⟨F, n, -1, 0, false⟩ ⟨#[102]⟩ (fun l => fdel l ⟨#[102]⟩) = (⟨[], n, -1, 0, false⟩, x) := by
  rcases h with rfl | ⟨X, k, rfl⟩
  · exact ⟨6, rfl⟩
  · exact ⟨0, by rw [St.deed_ok (by simp [fget])]; simp [fdel]⟩
set_option maxRecDepth 100000 in
set_option maxHeartbeats 1600000 in
theorem room_walk (r : Int) (s t u : ByteArray) (h0 : 0 ≤ r) (h1 : r ≤ 65535) (w : World) :
    Calls Try.prog 14 #[.int .u16 r, .string s, .string t, .string u] w fun e w' => e = .returned (.bool true) ∧ Below w.heap.size w w' := by
  have H := Lib.hid (@examples06)
  go_enter Try.func14, Try.ntmps14
  go_wp2_with fail
  refine (H.out w).mono ?_
  rintro e w1 ⟨rfl, hb1⟩
  go_upto_region 5 with fail
  obtain ⟨n, hn⟩ : ∃ n : Nat, (n : Int) = r % 301 := ⟨(r % 301).toNat, by omega⟩
  have hn300 : (n : Int) ≤ 300 := by omega
  have hn0 : (0 : Int) ≤ n := by omega
  rw [← hn]
  have _Hn := Lib.hid hn
  clear hn h0 h1
  go_wp2_with fail
  refine (new_one hb1 n (by omega) (by omega)).mono ?_
  rintro e w2 ⟨d, rfl, hO⟩
  clear hb1
  go_upto_region 10 with fail
  obtain ⟨W3, hW3⟩ : ∃ W3, W3 = w2.alloc (.cells #[.string s, .string t, .string u] 9) := ⟨_, rfl⟩
  obtain ⟨lb, hlb⟩ : ∃ lb, lb = w2.heap.size := ⟨_, rfl⟩
  have hO3 : One w W3 d ⟨[], n, -1, 0, false⟩ := by rw [hW3]; exact hO.below ((Below.refl _ _).alloc (Nat.le_refl _) _)
  have ho : W3.heap[lb]? = some (.cells #[.string s, .string t, .string u] 9 (0, 0)) := by rw [hW3, hlb]; exact heap_alloc_new w2 _
  rw [← hW3, ← hlb]
  clear hW3 hlb hO
  go_wp2_with fail
  go_loopw [13, 15] (fun used i wr => ∃ (j : Nat) (F : List Fi), used = .int .i64 (ftotal F : Nat) ∧ i = .int .i64 j ∧ (j : Int) ≤ 3 ∧ One w wr d ⟨F, n, -1, 0, false⟩ ∧ FOne F ∧ (ftotal F : Int) ≤ n ∧ wr.heap[lb]? = some (.cells #[.string s, .string t, .string u] 9 (0, 0))) (fun _ i _ => 3 - (intOf i).toNat)
  case atStart => exact ⟨0, [], rfl, rfl, by omega, hO3, .inl rfl, by simp [ftotal], ho⟩
  case round =>
    obtain ⟨j, F, rfl, rfl, hj, hOj, hF, hFn, hoj⟩ := hrel
    clear hO3 ho
    have hj0 : (0 : Int) ≤ j := by omega
    by_cases hlt : (j : Int) < 3
    · obtain ⟨x, hx⟩ : ∃ x, wr.cell? ⟨lb, j, none⟩ = some (.string x) := by
        rw [cell_of_row wr lb j _ _ _ hoj]
        have : j = 0 ∨ j = 1 ∨ j = 2 := by omega
        rcases this with rfl | rfl | rfl
        · exact ⟨s, rfl⟩
        · exact ⟨t, rfl⟩
        · exact ⟨u, rfl⟩
      obtain ⟨c, hc⟩ : ∃ c, c = ftotal F := ⟨_, rfl⟩
      rw [← hc] at hFn ⊢
      have Hc := Lib.hid hc
      clear hc
      go_upto_region 13 with fail
      go_cut [16] from 40 to 80 (fun v wx => ∃ y : ByteArray, v = .string y ∧ y.size ≤ 200 ∧ ∃ q, wx = wr.drewN q)
      case first =>
        go_quiet (fail)
        go_wp2_with fail
        all_goals go_meet
        all_goals first | exact ⟨_, rfl, by simp; omega, _, rfl⟩ | exact ⟨_, rfl, by omega, _, rfl⟩
      case rest =>
        obtain ⟨y, rfl, hy, q, rfl⟩ := hcut
        have hOq : One w (wr.drewN q) d ⟨F, n, -1, 0, false⟩ := hOj.below ⟨rfl, rfl, rfl, Nat.le_refl _, fun _ _ => rfl⟩
        have hoq : (wr.drewN q).heap[lb]? = some (.cells #[.string s, .string t, .string u] 9 (0, 0)) := hoj
        have lys := list_size y
        obtain ⟨hlF, hlt2⟩ := hF.lay y.data.toList
        by_cases hfit : (c : Int) + y.size ≤ n
        · have hst : St.append ⟨F, n, -1, 0, false⟩ ⟨#[102]⟩ y.data.toList = (⟨flay F ⟨#[102]⟩ y.data.toList, n, -1, 0, false⟩, 0) := St.append_ok (by rw [← Hc.out]; omega)
          have hcall := Calls.oneK hOq fun _ hA => append_at hA ⟨#[102]⟩ y (by omega) hst
          have Hcall := Lib.hid hcall
          have HH := Lib.hid (And.intro hlF (And.intro hlt2 (And.intro hoq lys)))
          clear hcall hlF hlt2 hoq lys hst hOq hOj hoj hF hx
          go_wp2_with fail
          refine Hcall.out.mono ?_
          rintro e w5 ⟨rfl, hO5, hK5⟩
          clear Hcall
          obtain ⟨q1, q2, q3, q4⟩ := HH.out
          have ho5 := hK5 _ _ _ _ (by decide) (by decide) (by decide) q3
          rw [q4, ← Hc.out] at q2
          have HH2 := Lib.hid (And.intro q1 (And.intro q2 (And.intro ho5 hO5)))
          clear HH q1 q2 q3 q4 ho5 hO5 hK5
          go_wp2_with fail
          obtain ⟨q1, q2, q3, q4⟩ := HH2.out
          refine ⟨⟨j + 1, _, ?_, by go_num, by omega, q4, q1, by omega, q3⟩, ?_⟩
          · rw [q2]; go_num
          · simp [intOf]; omega
        · have hst : St.append ⟨F, n, -1, 0, false⟩ ⟨#[102]⟩ y.data.toList = (⟨F, n, -1, 0, false⟩, 5) := St.append_full (by rw [← Hc.out]; omega)
          have hcall := Calls.oneK hOq fun _ hA => append_at hA ⟨#[102]⟩ y (by omega) hst
          have Hcall := Lib.hid hcall
          have HH := Lib.hid (And.intro hF hoq)
          clear hcall hlF hlt2 hoq lys hst hOq hOj hoj hF hx
          go_wp2_with fail
          refine Hcall.out.mono ?_
          rintro e w5 ⟨rfl, hO5, hK5⟩
          clear Hcall
          obtain ⟨q1, q3⟩ := HH.out
          have ho5 := hK5 _ _ _ _ (by decide) (by decide) (by decide) q3
          have HH2 := Lib.hid (And.intro q1 (And.intro ho5 hO5))
          clear HH q1 q3 ho5 hO5 hK5
          go_wp2_with fail
          obtain ⟨q1, q3, q4⟩ := HH2.out
          refine ⟨⟨j + 1, F, ?_, by go_num, by omega, q4, q1, by rw [← Hc.out]; omega, q3⟩, ?_⟩
          · rw [Hc.out]
          · simp [intOf]; omega
    · obtain ⟨xd, hdel⟩ := hF.del n
      have huse := used_one hOj
      have Huse := Lib.hid huse
      have Hdel := Lib.hid hdel
      obtain ⟨c, hc⟩ : ∃ c, c = ftotal F := ⟨_, rfl⟩
      have huse2 := huse
      rw [show ftotal (⟨F, n, -1, 0, false⟩ : St).files = c from hc.symm] at huse2
      rw [← hc] at hFn ⊢
      have Huse2 := Lib.hid huse2
      clear huse huse2 Huse hdel hc hF hOj hoj
      go_wp2_with fail
      refine Huse2.out.mono ?_
      rintro e w5 ⟨rfl, hO5⟩
      clear Huse2
      have hd5 := delete_one hO5 ⟨#[102]⟩ Hdel.out
      have Hd5 := Lib.hid hd5
      clear hd5 hO5
      go_wp2_with fail
      refine Hd5.out.mono ?_
      rintro e w6 ⟨rfl, hO6⟩
      clear Hd5
      have hu6 := used_one hO6
      rw [show ftotal (⟨[], n, -1, 0, false⟩ : St).files = 0 from rfl] at hu6
      have Hu6 := Lib.hid hu6
      clear hu6 hO6
      go_wp2_with fail
      refine Hu6.out.mono ?_
      rintro e w7 ⟨rfl, hO7⟩
      clear Hu6
      have hn7 := names_one hO7 (by show 0 ≤ _; omega)
      rw [show (⟨[], n, -1, 0, false⟩ : St).files.length = 0 from rfl] at hn7
      have Hn7 := Lib.hid hn7
      clear hn7 hO7
      go_wp2_with fail
      refine Hn7.out.mono ?_
      rintro e w8 ⟨lb8, rfl, hrow8, hO8⟩
      clear Hn7 hrow8
      have hmk := run_make_bytes w8 n (by omega)
      have hzs := run_zeros w8 n
      obtain ⟨Z, hZ⟩ : ∃ Z : ByteArray, Z = ⟨(List.replicate n 0).toArray⟩ := ⟨_, rfl⟩
      rw [← hZ] at hzs
      obtain ⟨W9, hW9⟩ : ∃ W9, W9 = w8.alloc (.cells (bcells (List.replicate n 0)).toArray 5) := ⟨_, rfl⟩
      rw [← hW9] at hmk hzs
      have hO9 : One w W9 d ⟨[], n, -1, 0, false⟩ := by rw [hW9]; exact hO8.below ((Below.refl _ _).alloc (Nat.le_refl _) _)
      have hZl : Z.data.toList.length = n := by rw [hZ]; simp
      have hZs : Z.size = n := by rw [← list_size, hZl]
      have g1 : St.append ⟨[], n, -1, 0, false⟩ ⟨#[103]⟩ Z.data.toList = (⟨[⟨⟨#[103]⟩, Z.data.toList, 0⟩], n, -1, 0, false⟩, 0) := by rw [St.append_ok (by rw [hZl]; simp [ftotal]), flay_zero]
      have g2 : St.append ⟨[⟨⟨#[103]⟩, Z.data.toList, 0⟩], n, -1, 0, false⟩ ⟨#[103]⟩ [120] = (⟨[⟨⟨#[103]⟩, Z.data.toList, 0⟩], n, -1, 0, false⟩, 5) := St.append_full (by rw [ftotal_one, hZl]; simp; omega)
      have ha9 := append_one hO9 ⟨#[103]⟩ Z (by omega) g1
      have Ha9 := Lib.hid ha9
      have Hg2 := Lib.hid g2
      clear ha9 g1 g2 hO9 hO8 hW9 hZ hZl
      go_wp2_with fail
      refine Ha9.out.mono ?_
      rintro e w10 ⟨rfl, hO10⟩
      clear Ha9
      have ha10 := append_one hO10 ⟨#[103]⟩ ⟨#[120]⟩ (by decide) Hg2.out
      have Ha10 := Lib.hid ha10
      clear ha10 hO10
      go_wp2_with fail
      refine Ha10.out.mono ?_
      rintro e w11 ⟨rfl, hO11⟩
      go_wp2_with fail
      go_ret
      exact ⟨rfl, hO11.world⟩
end Go.Proofs.Ytmjeanbbhacnaaa

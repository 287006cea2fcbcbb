/- A disk as its state tells it, the order of its files left open; one disk, or two that share nothing, in memory of the call's own. The bounds: the room, and the files together, are at most 2^40 bytes. -/
import Derived.Test.YtmjeanbbhacnaaaDiskLost
namespace Go.Proofs.Ytmjeanbbhacnaaa
open Go.RowKit
/-! ### lists of files, up to their order -/
def Named (l : List Fi) : Prop := l.Pairwise fun x y => x.name ≠ y.name
theorem Named.perm {l l' : List Fi} (h : Named l) (p : l.Perm l') : Named l' := (p.pairwise_iff (fun {_ _} hab => hab.symm)).1 h
theorem Named.unique {l : List Fi} (h : Named l) {x y : Fi} (hx : x ∈ l) (hy : y ∈ l) (e : x.name = y.name) : x = y := by
  unfold Named at h
  induction l with
  | nil => cases hx
  | cons z l ih =>
    rw [List.pairwise_cons] at h
    rcases List.mem_cons.1 hx with e1 | m1 <;> rcases List.mem_cons.1 hy with e2 | m2
    · rw [e1, e2]
    · exact absurd e (by rw [e1]; exact h.1 y m2)
    · exact absurd e.symm (by rw [e2]; exact h.1 x m1)
    · exact ih h.2 m1 m2
theorem fget_mem {l : List Fi} (h : Named l) {x : Fi} (hx : x ∈ l) : fget l x.name = some x := by
  cases hg : fget l x.name with
  | none => exact absurd rfl (fget_none hg x hx)
  | some y =>
    obtain ⟨hy, hn⟩ := fget_some hg
    rw [h.unique hy hx hn]
theorem fget_perm {l l' : List Fi} (h : Named l) (p : l.Perm l') (n : ByteArray) : fget l n = fget l' n := by
  cases hg : fget l n with
  | none =>
    cases hg' : fget l' n with
    | none => rfl
    | some y =>
      obtain ⟨hy, hn⟩ := fget_some hg'
      exact absurd hn (fget_none hg y (p.symm.subset hy))
  | some x =>
    obtain ⟨hx, hn⟩ := fget_some hg
    have := fget_mem (h.perm p) (p.subset hx)
    rw [hn] at this
    exact this.symm
theorem fdel_perm {l l' : List Fi} (p : l.Perm l') (n : ByteArray) : (fdel l n).Perm (fdel l' n) := p.filter _
theorem fput_perm {l l' : List Fi} (h : Named l) (p : l.Perm l') (f : Fi) : (fput l f).Perm (fput l' f) := by
  unfold fput
  rw [← fget_perm h p]
  split
  · exact p.map _
  · exact p.append_right _
theorem flay_perm {l l' : List Fi} (h : Named l) (p : l.Perm l') (n : ByteArray) (s : List UInt8) : (flay l n s).Perm (flay l' n s) := by
  unfold flay
  rw [← fget_perm h p]
  split <;> exact fput_perm h p _
theorem fsync_perm {l l' : List Fi} (h : Named l) (p : l.Perm l') (n : ByteArray) : (fsync n l).Perm (fsync n l') := by
  unfold fsync
  rw [← fget_perm h p]
  split
  · exact p
  · exact fput_perm h p _
theorem Named.fdel {l : List Fi} (h : Named l) (n : ByteArray) : Named (fdel l n) := List.Pairwise.sublist List.filter_sublist h
theorem frename_perm {l l' : List Fi} (h : Named l) (p : l.Perm l') (a b : ByteArray) : (frename a b l).Perm (frename a b l') := by
  unfold frename
  rw [← fget_perm h p]
  split
  · exact p
  · exact fput_perm (h.fdel a) (fdel_perm p a) _
theorem ftotal_perm {l l' : List Fi} (p : l.Perm l') : ftotal l = ftotal l' := (p.map _).sum_nat
theorem ftotal_cons (f : Fi) (l : List Fi) : ftotal (f :: l) = f.bytes.length + ftotal l := rfl
theorem ftotal_append (a b : List Fi) : ftotal (a ++ b) = ftotal a + ftotal b := by simp [ftotal]
theorem split_of {l : List Fi} {x : Fi} (hx : x ∈ l) : ∃ r, l.Perm (x :: r) := by
  obtain ⟨a, b, rfl⟩ := List.append_of_mem hx
  exact ⟨a ++ b, List.perm_middle⟩
theorem fput_old {l : List Fi} (h : Named l) {x f : Fi} (hx : x ∈ l) (e : x.name = f.name) : ∃ r, l.Perm (x :: r) ∧ (fput l f).Perm (f :: r) := by
  obtain ⟨r, hr⟩ := split_of hx
  refine ⟨r, hr, (fput_perm h hr f).trans ?_⟩
  have hn := h.perm hr
  unfold Named at hn
  rw [List.pairwise_cons] at hn
  have hg : fget (x :: r) f.name = some x := by rw [← e]; exact fget_mem (h.perm hr) List.mem_cons_self
  unfold fput
  rw [hg]
  simp only [Option.isSome_some, if_true, List.map_cons, e]
  rw [show r.map (fun y => if y.name = f.name then f else y) = r from ?_]
  rw [List.map_congr_left (g := id)]
  · simp
  · intro y hy
    have := hn.1 y hy
    rw [e] at this
    simp [Ne.symm this]
theorem ftotal_put {l : List Fi} (h : Named l) {x f : Fi} (hx : x ∈ l) (e : x.name = f.name) : ftotal (fput l f) + x.bytes.length = ftotal l + f.bytes.length := by
  obtain ⟨r, p1, p2⟩ := fput_old h hx e
  rw [ftotal_perm p1, ftotal_perm p2, ftotal_cons, ftotal_cons]; omega
theorem ftotal_new {l : List Fi} {f : Fi} (hg : fget l f.name = none) : ftotal (fput l f) = ftotal l + f.bytes.length := by
  unfold fput; rw [hg]; simp [ftotal]
theorem ftotal_lay {l : List Fi} (h : Named l) (n : ByteArray) (s : List UInt8) : ftotal (flay l n s) = ftotal l + s.length := by
  unfold flay
  cases hg : fget l n with
  | none => exact ftotal_new hg
  | some f =>
    obtain ⟨hf, hn⟩ := fget_some hg
    have := ftotal_put (f := ⟨n, f.bytes ++ s, f.synced⟩) h hf hn
    simp only [List.length_append] at this
    show ftotal (fput l ⟨n, f.bytes ++ s, f.synced⟩) = _
    omega
theorem ftotal_del (l : List Fi) (n : ByteArray) : ftotal (fdel l n) ≤ ftotal l := by
  unfold fdel ftotal
  induction l with
  | nil => exact Nat.le_refl _
  | cons x l ih =>
    simp only [List.filter_cons]
    split
    · simp only [List.map_cons, List.sum_cons]; omega
    · simp only [List.map_cons, List.sum_cons]; omega
theorem ftotal_sync {l : List Fi} (h : Named l) (n : ByteArray) : ftotal (fsync n l) = ftotal l := by
  unfold fsync
  cases hg : fget l n with
  | none => rfl
  | some f =>
    obtain ⟨hf, hn⟩ := fget_some hg
    have := ftotal_put (f := { f with synced := f.bytes.length }) h hf rfl
    show ftotal (fput l { f with synced := f.bytes.length }) = _
    simp only at this
    omega
theorem fdel_of {l : List Fi} (h : Named l) {x : Fi} (hx : x ∈ l) : l.Perm (x :: fdel l x.name) := by
  obtain ⟨r, hr⟩ := split_of hx
  have hn := h.perm hr
  unfold Named at hn
  rw [List.pairwise_cons] at hn
  refine hr.trans (List.Perm.cons x ?_)
  refine List.Perm.trans ?_ (fdel_perm hr x.name).symm
  unfold fdel
  rw [List.filter_cons_of_neg (by simp), List.filter_eq_self.2 (fun y hy => by simp [Ne.symm (hn.1 y hy)])]
theorem ftotal_rename {l : List Fi} (h : Named l) (a b : ByteArray) : ftotal (frename a b l) ≤ ftotal l := by
  unfold frename
  cases hg : fget l a with
  | none => exact Nat.le_refl _
  | some f =>
    obtain ⟨hf, hn⟩ := fget_some hg
    have h1 := ftotal_perm (fdel_of h hf)
    rw [ftotal_cons, hn] at h1
    show ftotal (fput (fdel l a) { f with name := b }) ≤ _
    cases hg2 : fget (fdel l a) b with
    | none => rw [ftotal_new (f := { f with name := b }) hg2]; simp only; omega
    | some x =>
      obtain ⟨hx, hxn⟩ := fget_some hg2
      have := ftotal_put (f := { f with name := b }) (h.fdel a) hx hxn
      simp only at this
      omega
theorem ftotal_lost (keep : Int) (l : List Fi) : ftotal (l.map (flost keep)) ≤ ftotal l := by
  induction l with
  | nil => exact Nat.le_refl _
  | cons x l ih =>
    rw [List.map_cons, ftotal_cons, ftotal_cons]
    have : (flost keep x).bytes.length ≤ x.bytes.length := by unfold flost; simp only [List.length_take]; omega
    omega
/-! ### a disk's state, up to the order of its files -/
structure St.Like (a b : St) : Prop where
  files : a.files.Perm b.files
  room : a.room = b.room
  after : a.after = b.after
  torn : a.torn = b.torn
  dead : a.dead = b.dead
theorem St.append_like {a b : St} (h : St.Like a b) (hn : Named a.files) (n : ByteArray) (s : List UInt8) : St.Like (St.append a n s).1 (St.append b n s).1 ∧ (St.append a n s).2 = (St.append b n s).2 := by
  obtain ⟨l, r, f, t, dd⟩ := a
  obtain ⟨l', r', f', t', dd'⟩ := b
  obtain ⟨h1, h2, h3, h4, h5⟩ := h
  simp only at h1 h2 h3 h4 h5 hn
  subst h2 h3 h4 h5
  have hf : St.fits ⟨l, r, f, t, dd⟩ s.length = St.fits ⟨l', r, f, t, dd⟩ s.length := by unfold St.fits; rw [ftotal_perm h1]
  unfold St.append
  rw [hf]
  simp only
  split
  · exact ⟨⟨h1, rfl, rfl, rfl, rfl⟩, rfl⟩
  · split
    · refine ⟨⟨?_, rfl, rfl, rfl, rfl⟩, rfl⟩
      simp only [tornL]
      split
      · exact flay_perm hn h1 _ _
      · exact h1
    · split
      · exact ⟨⟨flay_perm hn h1 _ _, rfl, rfl, rfl, rfl⟩, rfl⟩
      · exact ⟨⟨h1, rfl, rfl, rfl, rfl⟩, rfl⟩
theorem St.deed_like {a b : St} (h : St.Like a b) (hn : Named a.files) (n : ByteArray) (F : List Fi → List Fi) (hF : (F a.files).Perm (F b.files)) : St.Like (St.deed a n F).1 (St.deed b n F).1 ∧ (St.deed a n F).2 = (St.deed b n F).2 := by
  obtain ⟨l, r, f, t, dd⟩ := a
  obtain ⟨l', r', f', t', dd'⟩ := b
  obtain ⟨h1, h2, h3, h4, h5⟩ := h
  simp only at h1 h2 h3 h4 h5 hn hF
  subst h2 h3 h4 h5
  unfold St.deed
  simp only
  rw [fget_perm hn h1]
  split
  · exact ⟨⟨h1, rfl, rfl, rfl, rfl⟩, rfl⟩
  · split
    · exact ⟨⟨h1, rfl, rfl, rfl, rfl⟩, rfl⟩
    · split
      · exact ⟨⟨hF, rfl, rfl, rfl, rfl⟩, rfl⟩
      · exact ⟨⟨h1, rfl, rfl, rfl, rfl⟩, rfl⟩
/-- The bounds that a disk keeps. -/
structure St.Small (st : St) : Prop where
  total : ftotal st.files ≤ 1099511627776
  room : st.room ≤ 1099511627776
  after : st.after ≤ 9223372036854775807
theorem St.Small.append {st : St} (h : st.Small) (hn : Named st.files) (n : ByteArray) (s : List UInt8) : (St.append st n s).1.Small := by
  obtain ⟨l, r, f, t, dd⟩ := st
  obtain ⟨h1, h2, h3⟩ := h
  simp only at h1 h2 h3 hn
  unfold St.append
  simp only
  split
  · exact ⟨h1, h2, h3⟩
  · split
    · refine ⟨?_, h2, h3⟩
      simp only [tornL]
      split
      · rename_i hf
        have hf := of_decide_eq_true hf.1
        have := tornK_le t s.length
        rw [ftotal_lay hn, List.length_take]
        simp only at hf
        omega
      · exact h1
    · split
      · rename_i hf
        have hf := of_decide_eq_true hf
        simp only at hf
        refine ⟨?_, h2, ?_⟩
        · simp only; rw [ftotal_lay hn]; omega
        · simp only; split <;> omega
      · refine ⟨h1, h2, ?_⟩
        simp only; split <;> omega
theorem St.Small.deed {st : St} (h : st.Small) (n : ByteArray) (F : List Fi → List Fi) (hF : ftotal (F st.files) ≤ ftotal st.files) : (St.deed st n F).1.Small := by
  obtain ⟨l, r, f, t, dd⟩ := st
  obtain ⟨h1, h2, h3⟩ := h
  simp only at h1 h2 h3 hF
  unfold St.deed
  simp only
  split
  · exact ⟨h1, h2, h3⟩
  · split
    · exact ⟨h1, h2, h3⟩
    · split
      · refine ⟨Nat.le_trans hF h1, h2, ?_⟩
        simp only; split <;> omega
      · refine ⟨h1, h2, ?_⟩
        simp only; split <;> omega
/-! ### a disk in memory -/
/-- At d is a disk in the state st; its blocks are F. -/
def At (w : World) (d : Nat) (st : St) (F : Nat → Prop) : Prop :=
  ∃ mb gs ck, DiskC w d mb gs ck st.room st.after st.torn st.dead ∧ (gs.map G.abs).Perm st.files ∧ F = foot d mb gs ∧ st.Small
theorem DiskC.named {w : World} {d mb : Nat} {gs : List G} {clock : Nat} {room after torn : Int} {dead : Bool} (h : DiskC w d mb gs clock room after torn dead) : Named (gs.map G.abs) := by
  unfold Named
  rw [List.pairwise_map]
  exact h.apart.imp fun hab => hab.1
theorem At.named {w : World} {d : Nat} {st : St} {F : Nat → Prop} (h : At w d st F) : Named st.files := by
  obtain ⟨mb, gs, ck, h1, h2, _⟩ := h
  exact h1.named.perm h2
theorem At.lt {w : World} {d : Nat} {st : St} {F : Nat → Prop} (h : At w d st F) {k : Nat} (hk : F k) : k < w.heap.size := by
  obtain ⟨mb, gs, ck, h1, h2, rfl, _⟩ := h
  exact h1.lt hk
theorem At.kept {w w' : World} {d : Nat} {st : St} {F : Nat → Prop} (h : At w d st F) (hk : ∀ k, F k → w'.heap[k]? = w.heap[k]?) : At w' d st F := by
  obtain ⟨mb, gs, ck, h1, h2, rfl, h4⟩ := h
  exact ⟨mb, gs, ck, h1.kept hk, h2, rfl, h4⟩
/-- What a deed comes to. -/
theorem At.of_leaves {w w' : World} {d mb : Nat} {gs : List G} {s1 s2 : St} (h : Leaves w d mb gs s1 w') (hl : St.Like s1 s2) (hs : s2.Small) : ∃ F', At w' d s2 F' ∧ Eff (foot d mb gs) w F' w' := by
  obtain ⟨gs', ck', a1, a2, a3⟩ := h
  exact ⟨_, ⟨mb, gs', ck', by rw [← hl.room, ← hl.after, ← hl.torn, ← hl.dead]; exact a1, by rw [a2]; exact hl.files, rfl, hs⟩, a3⟩
/-- Two disks share nothing. -/
def Dis (F F2 : Nat → Prop) : Prop := ∀ k, F k → ¬ F2 k
/-- One disk, in memory of the call's own. -/
def One (W0 w : World) (d : Nat) (st : St) : Prop := ∃ F, At w d st F ∧ (∀ k, F k → W0.heap.size ≤ k) ∧ Below W0.heap.size W0 w
def Two (W0 w : World) (d : Nat) (st : St) (d2 : Nat) (st2 : St) : Prop := ∃ F F2, At w d st F ∧ At w d2 st2 F2 ∧ Dis F F2 ∧ (∀ k, F k → W0.heap.size ≤ k) ∧ (∀ k, F2 k → W0.heap.size ≤ k) ∧ Below W0.heap.size W0 w
theorem Two.swap {W0 w : World} {d : Nat} {st : St} {d2 : Nat} {st2 : St} (h : Two W0 w d st d2 st2) : Two W0 w d2 st2 d st := by
  obtain ⟨F, F2, h1, h2, h3, h4, h5, h6⟩ := h
  exact ⟨F2, F, h2, h1, fun k a b => h3 k b a, h5, h4, h6⟩
theorem Two.fst {W0 w : World} {d : Nat} {st : St} {d2 : Nat} {st2 : St} (h : Two W0 w d st d2 st2) : One W0 w d st := by
  obtain ⟨F, F2, h1, h2, h3, h4, h5, h6⟩ := h
  exact ⟨F, h1, h4, h6⟩
theorem Eff.low {F F' : Nat → Prop} {W0 w w' : World} (h : Eff F w F' w') (hl : ∀ k, F k → W0.heap.size ≤ k) (hb : Below W0.heap.size W0 w) : (∀ k, F' k → W0.heap.size ≤ k) ∧ Below W0.heap.size W0 w' := by
  have hs := hb.size
  refine ⟨fun k hk => ?_, hb.trans ⟨h.os, h.tape, h.output, h.size, fun k hk => h.keep k (by omega) fun hf => ?_⟩⟩
  · rcases h.sub k hk with r | r
    · exact hl k r
    · omega
  · have := hl k hf; omega
/-- A step of one disk. -/
def Turns (w : World) (d : Nat) (F : Nat → Prop) (st : St) (w' : World) : Prop := ∃ F', At w' d st F' ∧ Eff F w F' w'
theorem One.turn {W0 w w' : World} {d : Nat} {st' : St} {F : Nat → Prop} (hl : ∀ k, F k → W0.heap.size ≤ k) (hb : Below W0.heap.size W0 w) (h : Turns w d F st' w') : One W0 w' d st' := by
  obtain ⟨F', h1, h2⟩ := h
  obtain ⟨h3, h4⟩ := h2.low hl hb
  exact ⟨F', h1, h3, h4⟩
theorem Two.turn {W0 w w' : World} {d d2 : Nat} {st' st2 : St} {F F2 : Nat → Prop} (h2 : At w d2 st2 F2) (hd : Dis F F2) (hl : ∀ k, F k → W0.heap.size ≤ k) (hl2 : ∀ k, F2 k → W0.heap.size ≤ k) (hb : Below W0.heap.size W0 w) (h : Turns w d F st' w') : Two W0 w' d st' d2 st2 := by
  obtain ⟨F', h1, he⟩ := h
  obtain ⟨h3, h4⟩ := he.low hl hb
  refine ⟨F', F2, h1, h2.kept fun k hk => he.keep k (h2.lt hk) (fun hf => hd k hf hk), fun k a b => ?_, h3, hl2, h4⟩
  rcases he.sub k a with r | r
  · exact hd k r b
  · have := h2.lt b; omega
/-! ### the contracts -/
section
variable {w : World} {d : Nat} {st : St} {F : Nat → Prop}
theorem append_at (h : At w d st F) (n s : ByteArray) (hs : s.size ≤ 281474976710656) {st' : St} {x : Int} (he : St.append st n s.data.toList = (st', x)) :
    Calls Try.prog 17 #[.pointer (some ⟨d, 0, none⟩), .string n, .string s] w fun e w' => e = .returned (.int .i64 x) ∧ Turns w d F st' w' := by
  obtain ⟨mb, gs, ck, h1, h2, rfl, h4⟩ := h
  have hlike : St.Like ⟨gs.map G.abs, st.room, st.after, st.torn, st.dead⟩ st := ⟨h2, rfl, rfl, rfl, rfl⟩
  obtain ⟨k1, k2⟩ := St.append_like hlike h1.named n s.data.toList
  have hsm := h4.append (h1.named.perm h2) n s.data.toList
  rw [he] at k1 k2 hsm
  refine (append_any h1 n s hs (by rw [← total_abs, ftotal_perm h2]; exact h4.total) h4.room h4.after).mono ?_
  rintro e w' ⟨y, rfl, hy, hL⟩
  rw [k2] at hy
  exact ⟨by rw [hy], At.of_leaves hL k1 hsm⟩
theorem deed_at (h : At w d st F) (n : ByteArray) (G0 : List Fi → List Fi) (hperm : ∀ l l', Named l → l.Perm l' → (G0 l).Perm (G0 l')) (htot : ∀ l, Named l → ftotal (G0 l) ≤ ftotal l) {st' : St} {x : Int} (he : St.deed st n G0 = (st', x)) (f : FuncId) (args : Array Value)
    (hf : ∀ mb gs ck, DiskC w d mb gs ck st.room st.after st.torn st.dead → Calls Try.prog f args w fun e w' => ∃ x, e = .returned (.int .i64 x) ∧
      x = (St.deed ⟨gs.map G.abs, st.room, st.after, st.torn, st.dead⟩ n G0).2 ∧ Leaves w d mb gs (St.deed ⟨gs.map G.abs, st.room, st.after, st.torn, st.dead⟩ n G0).1 w') :
    Calls Try.prog f args w fun e w' => e = .returned (.int .i64 x) ∧ Turns w d F st' w' := by
  obtain ⟨mb, gs, ck, h1, h2, rfl, h4⟩ := h
  have hlike : St.Like ⟨gs.map G.abs, st.room, st.after, st.torn, st.dead⟩ st := ⟨h2, rfl, rfl, rfl, rfl⟩
  obtain ⟨k1, k2⟩ := St.deed_like hlike h1.named n G0 (hperm _ _ h1.named h2)
  have hsm := h4.deed n G0 (htot _ (h1.named.perm h2))
  rw [he] at k1 k2 hsm
  refine (hf mb gs ck h1).mono ?_
  rintro e w' ⟨y, rfl, hy, hL⟩
  rw [k2] at hy
  exact ⟨by rw [hy], At.of_leaves hL k1 hsm⟩
theorem sync_at (h : At w d st F) (n : ByteArray) {st' : St} {x : Int} (he : St.deed st n (fsync n) = (st', x)) :
    Calls Try.prog 18 #[.pointer (some ⟨d, 0, none⟩), .string n] w fun e w' => e = .returned (.int .i64 x) ∧ Turns w d F st' w' :=
  deed_at h n _ (fun _ _ hn p => fsync_perm hn p n) (fun _ hn => Nat.le_of_eq (ftotal_sync hn n)) he _ _ (fun _ _ _ h1 => sync_any h1 n (by obtain ⟨_, _, _, _, _, _, h4⟩ := h; exact h4.after))
theorem delete_at (h : At w d st F) (n : ByteArray) {st' : St} {x : Int} (he : St.deed st n (fun l => fdel l n) = (st', x)) :
    Calls Try.prog 19 #[.pointer (some ⟨d, 0, none⟩), .string n] w fun e w' => e = .returned (.int .i64 x) ∧ Turns w d F st' w' :=
  deed_at h n _ (fun _ _ _ p => fdel_perm p n) (fun _ _ => ftotal_del _ n) he _ _ (fun _ _ _ h1 => delete_any h1 n (by obtain ⟨_, _, _, _, _, _, h4⟩ := h; exact h4.after))
theorem rename_at (h : At w d st F) (n b : ByteArray) {st' : St} {x : Int} (he : St.deed st n (frename n b) = (st', x)) :
    Calls Try.prog 39 #[.pointer (some ⟨d, 0, none⟩), .string n, .string b] w fun e w' => e = .returned (.int .i64 x) ∧ Turns w d F st' w' :=
  deed_at h n _ (fun _ _ hn p => frename_perm hn p n b) (fun _ hn => ftotal_rename hn n b) he _ _ (fun _ _ _ h1 => rename_any h1 n b (by obtain ⟨_, _, _, _, _, _, h4⟩ := h; exact h4.after))
theorem read_at (h : At w d st F) (n : ByteArray) : Calls Try.prog 21 #[.pointer (some ⟨d, 0, none⟩), .string n] w fun e w' =>
    e = .returned (.tuple #[.string (rdText st.files n), .bool (rdThere st.files n)]) ∧ w = w' := by
  obtain ⟨mb, gs, ck, h1, h2, rfl, h4⟩ := h
  have e1 : rdText st.files n = rdText (gs.map G.abs) n := by unfold rdText; rw [fget_perm h1.named h2]
  have e2 : rdThere st.files n = rdThere (gs.map G.abs) n := by unfold rdThere; rw [fget_perm h1.named h2]
  rw [e1, e2]
  exact read_any h1 n
theorem used_at (h : At w d st F) : Calls Try.prog 40 #[.pointer (some ⟨d, 0, none⟩)] w fun e w' => e = .returned (.int .i64 (ftotal st.files : Nat)) ∧ Below w.heap.size w w' := by
  obtain ⟨mb, gs, ck, h1, h2, rfl, h4⟩ := h
  rw [← ftotal_perm h2, total_abs]
  exact used_any h1 (by rw [← total_abs, ftotal_perm h2]; exact h4.total)
theorem crashed_at (h : At w d st F) : Calls Try.prog 38 #[.pointer (some ⟨d, 0, none⟩)] w fun e w' => e = .returned (.bool st.dead) ∧ w = w' := by
  obtain ⟨mb, gs, ck, h1, h2, rfl, h4⟩ := h
  exact crashed_any h1
theorem arm_at (h : At w d st F) (a t : Int) (ha : a ≤ 9223372036854775807) : Calls Try.prog 37 #[.pointer (some ⟨d, 0, none⟩), .int .i64 a, .int .i64 t] w fun e w' =>
    e = .returned (.tuple #[]) ∧ Turns w d F { st with after := max a (-1), torn := t } w' := by
  obtain ⟨mb, gs, ck, h1, h2, rfl, h4⟩ := h
  refine (arm_any h1 a t).mono ?_
  rintro e w' ⟨rfl, k1, k2⟩
  exact ⟨rfl, _, ⟨mb, gs, ck, k1, h2, rfl, ⟨h4.total, h4.room, by simp only; omega⟩⟩, k2⟩
/-- A new disk. -/
theorem new_at (w : World) (room : Int) (h0 : 0 ≤ room) (h1 : room ≤ 1048576) : Calls Try.prog 16 #[.int .i64 room] w fun e w' => ∃ d, e = .returned (.tuple #[.pointer (some ⟨d, 0, none⟩), .int .i64 0]) ∧
    (∃ F, At w' d ⟨[], room, -1, 0, false⟩ F ∧ ∀ k, F k → w.heap.size ≤ k) ∧ Below w.heap.size w w' := by
  refine (new_any w room h0 h1).mono ?_
  rintro e w' ⟨rfl, rfl⟩
  refine ⟨_, rfl, ⟨_, ⟨_, _, _, DiskC.fresh w room, List.Perm.refl _, rfl, ⟨by simp [ftotal], by simp only; omega, by simp only; omega⟩⟩, ?_⟩, ?_⟩
  · rintro k (rfl | rfl | ⟨_, hx, _⟩)
    · omega
    · exact Nat.le_refl _
    · cases hx
  · exact ((Below.refl _ _).alloc (Nat.le_refl _) _).alloc (by rw [World.size_alloc]; omega) _
/-- What is not lost. -/
theorem lost_at (h : At w d st F) (keep : Int) : Calls Try.prog 20 #[.pointer (some ⟨d, 0, none⟩), .int .i64 keep] w fun e w' => ∃ d2, e = .returned (.pointer (some ⟨d2, 0, none⟩)) ∧
    (∃ F2, At w' d2 ⟨st.files.map (flost keep), st.room, -1, 0, false⟩ F2 ∧ ∀ k, F2 k → w.heap.size ≤ k) ∧ Below w.heap.size w w' := by
  obtain ⟨mb, gs, ck, h1, h2, rfl, h4⟩ := h
  refine (lost_any h1 keep (by rw [← total_abs, ftotal_perm h2]; exact h4.total)).mono ?_
  rintro e w' ⟨d2, mb2, gs2, ck2, rfl, k1, k2, k3, k4⟩
  exact ⟨d2, rfl, ⟨_, ⟨mb2, gs2, ck2, k1, k2.trans (h2.map _), rfl, ⟨Nat.le_trans (ftotal_lost keep _) h4.total, h4.room, by simp only; omega⟩⟩, k3⟩, k4⟩
end
end Go.Proofs.Ytmjeanbbhacnaaa

/- A set of package warm in memory, as the changes tell it: what each step of the code makes of it. No condition. -/
import Derived.Test.YtgjaennilkhejaaWMap
namespace Go.Proofs.Ytgjaennilkhejaa
open Go.RowKit
/-- A log. -/
structure Lg where
  addr : ByteArray
  topics : List W4
  data : ByteArray
/-- A change: a key of one of the four maps, a refund, a log. -/
inductive Ch where
  | key (f : Fin 4) (v : Value)
  | refund (n : Int)
  | log (l : Lg)
/-- .. and the blocks that it has in memory: the map's box and the key's; the set's box and the number's; the topics' row. -/
inductive G where
  | key (f : Fin 4) (v : Value) (bm bk : Nat)
  | refund (n : Int) (bs bn : Nat)
  | log (l : Lg) (tb : Option Nat) (tc : Nat)
def G.abs : G → Ch
  | .key f v _ _ => .key f v
  | .refund n _ _ => .refund n
  | .log l _ _ => .log l
def keyIn (f : Fin 4) : Ch → Option Value
  | .key f' v => if f' = f then some v else none
  | _ => none
def keysOf (f : Fin 4) (L : List Ch) : List Value := L.filterMap (keyIn f)
def addN (t : Int) : Ch → Int
  | .refund n => wrap64 (t + n)
  | _ => t
def tot (L : List Ch) : Int := L.foldl addN 0
def logIn : Ch → Option Lg
  | .log l => some l
  | _ => none
def logsOf (L : List Ch) : List Lg := L.filterMap logIn
def G.logCells : G → List Value
  | .log l tb tc => [.string l.addr, .slice (tb.map fun b => ⟨b, 0, none⟩) l.topics.length tc, .string l.data]
  | _ => []
def logCells (gs : List G) : List Value := gs.flatMap G.logCells
def W4s (l : List W4) : List Value := l.flatMap W4.cells
def tM (f : Fin 4) : TypeId := if f = 1 then 61 else 60
def tK (f : Fin 4) : TypeId := if f = 1 then 67 else 9
def fK (f : Fin 4) : FuncId := if f = 1 then 45 else 46
def okK (f : Fin 4) : Value → Prop := if f = 1 then SlotOk else StrOk
theorem keys_of (f : Fin 4) : Keys Try.prog (tM f) (tK f) 69 (okK f) := by
  unfold tM tK okK
  split
  · exact slot_keys
  · exact str_keys
def G.fn (s : Nat) : G → Value
  | .key f _ bm bk => .func (.func (fK f)) #[] #[.pointer (some ⟨bm, 0, none⟩), .pointer (some ⟨bk, 0, none⟩)]
  | .refund _ bs bn => .func (.func 35) #[] #[.pointer (some ⟨bs, 0, none⟩), .pointer (some ⟨bn, 0, none⟩)]
  | .log _ _ _ => .func (.func 32) #[.pointer (some ⟨s, 0, none⟩)] #[]
/-- The blocks of a set. -/
structure Gs where
  maps : Fin 4 → Nat
  lb : Option Nat
  lcap : Nat
  ub : Option Nat
  ucap : Nat
def G.foot : G → Nat → Prop
  | .key _ _ bm bk, k => k = bm ∨ k = bk
  | .refund _ bs bn, k => k = bs ∨ k = bn
  | .log _ tb _, k => tb = some k
def G.ok (w : World) (s : Nat) (maps : Fin 4 → Nat) : G → Prop
  | .key f v bm bk => okK f v ∧ w.heap[bm]? = some (.cells #[.map (some (maps f))] (tM f) (0, 0)) ∧ w.heap[bk]? = some (.cells v.cells (tK f) (0, 0))
  | .refund n bs bn => w.heap[bs]? = some (.cells #[.pointer (some ⟨s, 0, none⟩)] 26 (0, 0)) ∧ w.heap[bn]? = some (.cells #[.int .i64 n] 2 (0, 0))
  | .log l tb tc => VRow 24 4 w tb tc l.topics.length (W4s l.topics)
theorem G.ok.kept {w w' : World} {s : Nat} {maps : Fin 4 → Nat} {c : G} (h : c.ok w s maps) (hk : ∀ k, c.foot k → w'.heap[k]? = w.heap[k]?) : c.ok w' s maps := by
  cases c with
  | key f v bm bk => exact ⟨h.1, (hk bm (.inl rfl)).trans h.2.1, (hk bk (.inr rfl)).trans h.2.2⟩
  | refund n bs bn => exact ⟨(hk bs (.inl rfl)).trans h.1, (hk bn (.inr rfl)).trans h.2⟩
  | log l tb tc => exact VRow.kept h fun b e => hk b e
/-- What the changes' own blocks are not. -/
def Alien (t : TypeId) : Prop := t ≠ 64 ∧ t ≠ 34 ∧ t ≠ 1
theorem G.ok.tag {w : World} {s : Nat} {maps : Fin 4 → Nat} {c : G} (h : c.ok w s maps) {k : Nat} (hk : c.foot k) : ∃ row t, w.heap[k]? = some (.cells row t (0, 0)) ∧ Alien t := by
  cases c with
  | key f v bm bk =>
    rcases hk with rfl | rfl
    · refine ⟨_, _, h.2.1, ?_⟩
      unfold tM Alien; split <;> decide
    · refine ⟨_, _, h.2.2, ?_⟩
      unfold tK Alien; split <;> decide
  | refund n bs bn =>
    rcases hk with rfl | rfl
    · exact ⟨_, _, h.1, by unfold Alien; decide⟩
    · exact ⟨_, _, h.2, by unfold Alien; decide⟩
  | log l tb tc =>
    have hk' : tb = some k := hk
    subst hk'
    obtain ⟨row, hr⟩ := VRow.block h
    exact ⟨row, _, hr, by unfold Alien; decide⟩
def absL (gs : List G) : List Ch := gs.map G.abs
theorem absL_append (a b : List G) : absL (a ++ b) = absL a ++ absL b := List.map_append
/-- now: the changes that hold; und: those that can be taken back. -/
structure SetC (w : World) (s : Nat) (g : Gs) (now und : List G) : Prop where
  set : w.heap[s]? = some (.cells #[.map (some (g.maps 0)), .map (some (g.maps 1)), .map (some (g.maps 2)), .map (some (g.maps 3)), .int .i64 (tot (absL now)),
    .slice (g.lb.map fun b => ⟨b, 0, none⟩) (logsOf (absL now)).length g.lcap, .slice (g.ub.map fun b => ⟨b, 0, none⟩) und.length g.ucap] 64 (0, 0))
  map : ∀ f, UMap w (g.maps f) (keysOf f (absL now))
  inj : ∀ f f', g.maps f = g.maps f' → f = f'
  logs : VRow 34 3 w g.lb g.lcap (logsOf (absL now)).length (logCells now)
  undo : VRow 1 1 w g.ub g.ucap und.length (und.map (G.fn s))
  okN : ∀ c ∈ now, c.ok w s g.maps
  okU : ∀ c ∈ und, c.ok w s g.maps
  once : ∀ f, (keysOf f (absL now)).Nodup
def foot (s : Nat) (g : Gs) (now und : List G) (k : Nat) : Prop := k = s ∨ (∃ f, k = g.maps f) ∨ g.lb = some k ∨ g.ub = some k ∨ (∃ c ∈ now, c.foot k) ∨ ∃ c ∈ und, c.foot k
section
variable {w W : World} {s : Nat} {g : Gs} {now und : List G} (h : SetC w s g now und)
include h
theorem SetC.kept (hk : ∀ k, foot s g now und k → W.heap[k]? = w.heap[k]?) : SetC W s g now und where
  set := (hk s (.inl rfl)).trans h.set
  map f := (h.map f).kept (hk _ (.inr (.inl ⟨f, rfl⟩)))
  inj := h.inj
  logs := h.logs.kept fun b e => hk b (.inr (.inr (.inl e)))
  undo := h.undo.kept fun b e => hk b (.inr (.inr (.inr (.inl e))))
  okN c hc := (h.okN c hc).kept fun k hf => hk k (.inr (.inr (.inr (.inr (.inl ⟨c, hc, hf⟩)))))
  okU c hc := (h.okU c hc).kept fun k hf => hk k (.inr (.inr (.inr (.inr (.inr ⟨c, hc, hf⟩)))))
  once := h.once
theorem SetC.lt {k : Nat} (hk : foot s g now und k) : k < w.heap.size := by
  rcases hk with rfl | ⟨f, rfl⟩ | e | e | ⟨c, hc, hf⟩ | ⟨c, hc, hf⟩
  · exact lt_of_block h.set
  · exact (h.map f).lt
  · have := h.logs; rw [e] at this; exact this.lt
  · have := h.undo; rw [e] at this; exact this.lt
  · obtain ⟨_, _, hb, _⟩ := (h.okN c hc).tag hf; exact lt_of_block hb
  · obtain ⟨_, _, hb, _⟩ := (h.okU c hc).tag hf; exact lt_of_block hb
theorem SetC.below (hb : Below w.heap.size w W) : SetC W s g now und := h.kept fun k hk => hb.block k (h.lt hk)
/-! which blocks are which -/
theorem SetC.s_ne_map (f : Fin 4) : s ≠ g.maps f := fun e => by
  obtain ⟨es, ck, hb⟩ := (h.map f).block
  have := h.set; rw [e, hb] at this; cases this
theorem SetC.lb_ne {b : Nat} (e : g.lb = some b) : b ≠ s ∧ (∀ f, b ≠ g.maps f) ∧ g.ub ≠ some b := by
  have hl := h.logs; rw [e] at hl
  obtain ⟨row, hr⟩ := hl.block
  refine ⟨fun e2 => ?_, fun f e2 => ?_, fun e2 => ?_⟩
  · subst e2; have := h.set; rw [hr] at this
    simp only [Option.some.injEq, Obj.cells.injEq] at this
    exact absurd this.2.1 (by decide)
  · obtain ⟨es, ck, hb⟩ := (h.map f).block
    rw [← e2, hr] at hb; cases hb
  · have hu := h.undo; rw [e2] at hu
    obtain ⟨row2, hr2⟩ := hu.block
    rw [hr] at hr2
    simp only [Option.some.injEq, Obj.cells.injEq] at hr2
    exact absurd hr2.2.1 (by decide)
theorem SetC.ub_ne {b : Nat} (e : g.ub = some b) : b ≠ s ∧ (∀ f, b ≠ g.maps f) ∧ g.lb ≠ some b := by
  have hl := h.undo; rw [e] at hl
  obtain ⟨row, hr⟩ := hl.block
  refine ⟨fun e2 => ?_, fun f e2 => ?_, fun e2 => (h.lb_ne e2).2.2 e⟩
  · subst e2; have := h.set; rw [hr] at this
    simp only [Option.some.injEq, Obj.cells.injEq] at this
    exact absurd this.2.1 (by decide)
  · obtain ⟨es, ck, hb⟩ := (h.map f).block
    rw [← e2, hr] at hb; cases hb
/-- A block of the changes' own is none that is written. -/
theorem SetC.alien {k : Nat} {row : Array Value} {t : TypeId} {fr : Nat × Nat} (hb : w.heap[k]? = some (.cells row t fr)) (ha : Alien t) : k ≠ s ∧ (∀ f, k ≠ g.maps f) ∧ g.lb ≠ some k ∧ g.ub ≠ some k := by
  refine ⟨fun e => ?_, fun f e => ?_, fun e => ?_, fun e => ?_⟩
  · subst e; have := h.set; rw [hb] at this
    simp only [Option.some.injEq, Obj.cells.injEq] at this
    exact ha.1 this.2.1
  · obtain ⟨es, ck, hm⟩ := (h.map f).block
    rw [← e, hb] at hm; cases hm
  · have hl := h.logs; rw [e] at hl
    obtain ⟨row2, hr⟩ := hl.block
    rw [hb] at hr
    simp only [Option.some.injEq, Obj.cells.injEq] at hr
    exact ha.2.1 hr.2.1
  · have hl := h.undo; rw [e] at hl
    obtain ⟨row2, hr⟩ := hl.block
    rw [hb] at hr
    simp only [Option.some.injEq, Obj.cells.injEq] at hr
    exact ha.2.2 hr.2.1
theorem SetC.okN_kept (hk : ∀ k, k ≠ s → (∀ f, k ≠ g.maps f) → g.lb ≠ some k → g.ub ≠ some k → k < w.heap.size → W.heap[k]? = w.heap[k]?) : ∀ c ∈ now, c.ok W s g.maps := fun c hc => (h.okN c hc).kept fun k hf => by
  obtain ⟨row, t, hb, ha⟩ := (h.okN c hc).tag hf
  obtain ⟨h1, h2, h3, h4⟩ := h.alien hb ha
  exact hk k h1 h2 h3 h4 (lt_of_block hb)
theorem SetC.okU_kept (hk : ∀ k, k ≠ s → (∀ f, k ≠ g.maps f) → g.lb ≠ some k → g.ub ≠ some k → k < w.heap.size → W.heap[k]? = w.heap[k]?) : ∀ c ∈ und, c.ok W s g.maps := fun c hc => (h.okU c hc).kept fun k hf => by
  obtain ⟨row, t, hb, ha⟩ := (h.okU c hc).tag hf
  obtain ⟨h1, h2, h3, h4⟩ := h.alien hb ha
  exact hk k h1 h2 h3 h4 (lt_of_block hb)
/-- The map f has other keys now. -/
theorem SetC.turnMap {now' : List G} (f : Fin 4) (hb : But w W (g.maps f)) (hm : UMap W (g.maps f) (keysOf f (absL now'))) (ho : ∀ f', f' ≠ f → keysOf f' (absL now') = keysOf f' (absL now)) (ht : tot (absL now') = tot (absL now))
    (hl : logsOf (absL now') = logsOf (absL now)) (hlc : logCells now' = logCells now) (hok : ∀ c ∈ now', c ∈ now ∨ c.ok W s g.maps) (hone : (keysOf f (absL now')).Nodup) : SetC W s g now' und where
  set := by rw [hb.block s (h.s_ne_map f), ht, hl]; exact h.set
  map f' := by
    by_cases e : f' = f
    · subst e; exact hm
    · rw [ho f' e]; exact (h.map f').kept (hb.block _ fun e2 => e (h.inj _ _ e2))
  inj := h.inj
  logs := by rw [hl, hlc]; exact h.logs.kept fun b e => hb.block _ ((h.lb_ne e).2.1 f)
  undo := h.undo.kept fun b e => hb.block _ ((h.ub_ne e).2.1 f)
  okN c hc := by
    rcases hok c hc with r | r
    · exact h.okN_kept (fun k _ h2 _ _ _ => hb.block k (h2 f)) c r
    · exact r
  okU := h.okU_kept (fun k _ h2 _ _ _ => hb.block k (h2 f))
  once f' := by
    by_cases e : f' = f
    · subst e; exact hone
    · rw [ho f' e]; exact h.once f'
end
theorem keysOf_snoc (f : Fin 4) (L : List Ch) (c : Ch) : keysOf f (L ++ [c]) = keysOf f L ++ (match keyIn f c with | some v => [v] | none => []) := by
  unfold keysOf
  rw [List.filterMap_append]
  cases h : keyIn f c <;> simp [h]
theorem keysOf_key (f : Fin 4) (L : List Ch) (v : Value) : keysOf f (L ++ [.key f v]) = keysOf f L ++ [v] := by rw [keysOf_snoc]; simp [keyIn]
theorem keysOf_ne {f f' : Fin 4} (L : List Ch) (v : Value) (e : f' ≠ f) : keysOf f' (L ++ [.key f v]) = keysOf f' L := by rw [keysOf_snoc]; simp [keyIn, Ne.symm e]
theorem keysOf_refund (f : Fin 4) (L : List Ch) (n : Int) : keysOf f (L ++ [.refund n]) = keysOf f L := by rw [keysOf_snoc]; simp [keyIn]
theorem keysOf_log (f : Fin 4) (L : List Ch) (l : Lg) : keysOf f (L ++ [.log l]) = keysOf f L := by rw [keysOf_snoc]; simp [keyIn]
theorem tot_snoc (L : List Ch) (c : Ch) : tot (L ++ [c]) = addN (tot L) c := by simp [tot]
theorem logsOf_snoc (L : List Ch) (c : Ch) : logsOf (L ++ [c]) = logsOf L ++ (match logIn c with | some l => [l] | none => []) := by
  unfold logsOf
  rw [List.filterMap_append]
  cases h : logIn c <;> simp [h]
theorem logCells_snoc (gs : List G) (c : G) : logCells (gs ++ [c]) = logCells gs ++ c.logCells := by simp [logCells]
theorem keysOf_ok {w : World} {s : Nat} {g : Gs} {now und : List G} (h : SetC w s g now und) (f : Fin 4) : ∀ x ∈ keysOf f (absL now), okK f x := by
  intro x hx
  unfold keysOf absL at hx
  obtain ⟨c, hc, hx⟩ := List.mem_filterMap.1 hx
  obtain ⟨y, hy, rfl⟩ := List.mem_map.1 hc
  have := h.okN y hy
  cases y with
  | key f' v bm bk =>
    by_cases e : f' = f
    · subst e
      simp [G.abs, keyIn] at hx
      subst hx
      exact this.1
    · simp [G.abs, keyIn, e] at hx
  | refund n bs bn => simp [G.abs, keyIn] at hx
  | log l tb tc => simp [G.abs, keyIn] at hx
section
variable {w W : World} {s : Nat} {g : Gs} {now und : List G}
/-- One more key, in its map. -/
theorem SetC.put (h : SetC w s g now und) {f : Fin 4} {v : Value} {bm bk : Nat} (hc : G.ok w s g.maps (.key f v bm bk)) (hn : v ∉ keysOf f (absL now)) :
    ∃ W, (Instr.mapUpdate (tM f) (.map (some (g.maps f))) v (.agg #[])).run Try.prog w = .ok () W ∧ SetC W s g (now ++ [.key f v bm bk]) und ∧ But w W (g.maps f) := by
  obtain ⟨W, h1, h2, h3⟩ := (h.map f).put (keys_of f) (keysOf_ok h f) hc.1 hn
  have hcW : G.ok W s g.maps (.key f v bm bk) := hc.kept fun k hk => h3.block k (by
    obtain ⟨row, t, hb, ha⟩ := hc.tag hk
    exact (h.alien hb ha).2.1 f)
  have e : absL (now ++ [.key f v bm bk]) = absL now ++ [.key f v] := absL_append _ _
  refine ⟨W, h1, h.turnMap f h3 (by rw [e, keysOf_key]; exact h2) (fun f' e2 => by rw [e, keysOf_ne _ _ e2]) (by rw [e, tot_snoc]; rfl) (by rw [e, logsOf_snoc]; simp [logIn]) (by rw [logCells_snoc]; simp [G.logCells]) (fun c hc' => ?_) ?_, h3⟩
  · rcases List.mem_append.1 hc' with r | r
    · exact .inl r
    · rw [List.mem_singleton.1 r]; exact .inr hcW
  · rw [e, keysOf_key]
    exact List.nodup_append.2 ⟨h.once f, by simp, fun a ha b hb => by rw [List.mem_singleton.1 hb]; exact fun e => hn (e ▸ ha)⟩
/-- The last key, out of its map. -/
theorem SetC.drop {f : Fin 4} {v : Value} {bm bk : Nat} (h : SetC w s g (now ++ [.key f v bm bk]) und) (ty : TypeId) :
    ∃ W, (Builtin.delete_ #[tM f, tK f] ty #[.map (some (g.maps f)), v]).run Try.prog w = .ok (.tuple #[]) W ∧ SetC W s g now und ∧ But w W (g.maps f) := by
  have e : absL (now ++ [.key f v bm bk]) = absL now ++ [.key f v] := absL_append _ _
  have hm := h.map f
  have ho := h.once f
  rw [e, keysOf_key] at hm ho
  have hk := keysOf_ok h f
  rw [e, keysOf_key] at hk
  obtain ⟨ho1, _, ho2⟩ := List.nodup_append.1 ho
  obtain ⟨W, h1, h2, h3⟩ := hm.del (keys_of f) (fun x hx => hk x (List.mem_append_left _ hx)) (hk v (by simp)) (fun hv => ho2 v hv v (by simp) rfl) ty
  exact ⟨W, h1, h.turnMap f h3 h2 (fun f' e2 => by rw [e, keysOf_ne _ _ e2]) (by rw [e, tot_snoc]; rfl) (by rw [e, logsOf_snoc]; simp [logIn]) (by rw [logCells_snoc]; simp [G.logCells]) (fun c hc' => .inl (List.mem_append_left _ hc')) ho1, h3⟩
/-- What can be taken back is one more, or is cut. -/
theorem SetC.setUndo (h : SetC w s g now und) {und' : List G} {ub : Option Nat} {ucap : Nat} (hg : w.grownBy W g.ub) (hr : VRow 1 1 W ub ucap und'.length (und'.map (G.fn s))) (hub : g.ub = ub ∨ ∀ b, ub = some b → w.heap.size ≤ b) (hok : ∀ c ∈ und', c ∈ und ∨ c ∈ now ∨ c.ok w s g.maps) :
    SetC (W.setCell ⟨s, 6, none⟩ (.slice (ub.map fun b => ⟨b, 0, none⟩) und'.length ucap)) s { g with ub := ub, ucap := ucap } now und' := by
  have hs := lt_of_block h.set
  have hus : g.ub ≠ some s := fun e => (h.ub_ne e).1 rfl
  have hset : W.heap[s]? = _ := (hg.block s hs (Ne.symm hus)).trans h.set
  have hk : ∀ k, k < w.heap.size → k ≠ s → g.ub ≠ some k → (W.setCell ⟨s, 6, none⟩ (.slice (ub.map fun b => ⟨b, 0, none⟩) und'.length ucap)).heap[k]? = w.heap[k]? := fun k h1 h2 h3 =>
    (setCell_other _ h2).trans (hg.block k h1 (Ne.symm h3))
  refine ⟨?_, fun f => (h.map f).kept (hk _ (h.map f).lt (h.s_ne_map f).symm fun e => (h.ub_ne e).2.1 f rfl), h.inj, h.logs.kept fun b e => hk b (by have := h.logs; rw [e] at this; exact this.lt) (h.lb_ne e).1 (h.lb_ne e).2.2, ?_, ?_, ?_, h.once⟩
  · rw [setCell_block _ hset]; rfl
  · refine hr.kept fun b e => setCell_other _ ?_
    rcases hub with r | r
    · exact (h.ub_ne (r.trans e)).1
    · have := r b e; omega
  · exact fun c hc => h.okN_kept (fun k h1 h2 h3 h4 h5 => hk k h5 h1 h4) c hc
  · intro c hc
    rcases hok c hc with r | r | r
    · exact h.okU_kept (fun k h1 h2 h3 h4 h5 => hk k h5 h1 h4) c r
    · exact h.okN_kept (fun k h1 h2 h3 h4 h5 => hk k h5 h1 h4) c r
    · refine G.ok.kept r fun k hf => ?_
      obtain ⟨row, t, hb, ha⟩ := r.tag hf
      obtain ⟨h1, h2, h3, h4⟩ := h.alien hb ha
      exact hk k (lt_of_block hb) h1 h4
/-- The refund is another one. -/
theorem SetC.setRefund (h : SetC w s g now und) {now' : List G} (hk : ∀ f, keysOf f (absL now') = keysOf f (absL now)) (hl : logsOf (absL now') = logsOf (absL now)) (hlc : logCells now' = logCells now) (hok : ∀ c ∈ now', c ∈ now ∨ c.ok w s g.maps) {n : Int} (ht : n = tot (absL now')) :
    SetC (w.setCell ⟨s, 4, none⟩ (.int .i64 n)) s g now' und := by
  subst ht
  have ho : ∀ k, k ≠ s → (w.setCell ⟨s, 4, none⟩ (.int .i64 (tot (absL now')))).heap[k]? = w.heap[k]? := fun k h1 => setCell_other _ h1
  refine ⟨?_, fun f => by rw [hk f]; exact (h.map f).kept (ho _ (h.s_ne_map f).symm), h.inj, by rw [hl, hlc]; exact h.logs.kept fun b e => ho b (h.lb_ne e).1, h.undo.kept fun b e => ho b (h.ub_ne e).1, fun c hc => ?_, fun c hc => h.okU_kept (fun k h1 h2 h3 h4 h5 => ho k h1) c hc, fun f => by rw [hk f]; exact h.once f⟩
  · rw [setCell_block _ h.set, hl]; rfl
  · rcases hok c hc with r | r
    · exact h.okN_kept (fun k h1 h2 h3 h4 h5 => ho k h1) c r
    · refine G.ok.kept r fun k hf => ?_
      obtain ⟨row, t, hb, ha⟩ := r.tag hf
      exact ho k (h.alien hb ha).1
/-- The logs are other ones. -/
theorem SetC.setLogs (h : SetC w s g now und) {now' : List G} {lb : Option Nat} {lcap : Nat} (hg : w.grownBy W g.lb) (hr : VRow 34 3 W lb lcap (logsOf (absL now')).length (logCells now')) (hlb : g.lb = lb ∨ ∀ b, lb = some b → w.heap.size ≤ b)
    (hkk : ∀ f, keysOf f (absL now') = keysOf f (absL now)) (ht : tot (absL now') = tot (absL now)) (hok : ∀ c ∈ now', c ∈ now ∨ c.ok w s g.maps) :
    SetC (W.setCell ⟨s, 5, none⟩ (.slice (lb.map fun b => ⟨b, 0, none⟩) (logsOf (absL now')).length lcap)) s { g with lb := lb, lcap := lcap } now' und := by
  have hs := lt_of_block h.set
  have hus : g.lb ≠ some s := fun e => (h.lb_ne e).1 rfl
  have hset : W.heap[s]? = _ := (hg.block s hs (Ne.symm hus)).trans h.set
  have hk : ∀ k, k < w.heap.size → k ≠ s → g.lb ≠ some k → (W.setCell ⟨s, 5, none⟩ (.slice (lb.map fun b => ⟨b, 0, none⟩) (logsOf (absL now')).length lcap)).heap[k]? = w.heap[k]? := fun k h1 h2 h3 =>
    (setCell_other _ h2).trans (hg.block k h1 (Ne.symm h3))
  refine ⟨?_, fun f => by rw [hkk f]; exact (h.map f).kept (hk _ (h.map f).lt (h.s_ne_map f).symm fun e => (h.lb_ne e).2.1 f rfl), h.inj, ?_, h.undo.kept fun b e => hk b (by have := h.undo; rw [e] at this; exact this.lt) (h.ub_ne e).1 (h.ub_ne e).2.2, ?_, ?_, fun f => by rw [hkk f]; exact h.once f⟩
  · rw [setCell_block _ hset, ht]; rfl
  · refine hr.kept fun b e => setCell_other _ ?_
    rcases hlb with r | r
    · exact (h.lb_ne (r.trans e)).1
    · have := r b e; omega
  · intro c hc
    rcases hok c hc with r | r
    · exact h.okN_kept (fun k h1 h2 h3 h4 h5 => hk k h5 h1 h3) c r
    · refine G.ok.kept r fun k hf => ?_
      obtain ⟨row, t, hb, ha⟩ := r.tag hf
      obtain ⟨h1, h2, h3, h4⟩ := h.alien hb ha
      exact hk k (lt_of_block hb) h1 h3
  · exact fun c hc => h.okU_kept (fun k h1 h2 h3 h4 h5 => hk k h5 h1 h3) c hc
end
end Go.Proofs.Ytgjaennilkhejaa

/- What is read is what was committed; of two transactions that wrote one row, one was committed before the other began; no program in sight. -/
import Derived.Test.YtniomgngiiiklabDoorStep
namespace Go.Proofs.YtniomgngiiiklabDoor
open Go.RowKit

def zeroDeal : Deal := ⟨0, 0, []⟩
def fits (k : ByteArray) (t : Int) (d : Deal) : Prop := (writeOf d.writes k).isSome = true ∧ d.commit ≤ t
def bestDeal (k : ByteArray) (t : Int) (b d : Deal) : Deal := if (writeOf d.writes k).isSome = true ∧ d.commit ≤ t ∧ b.commit < d.commit then d else b
def bestOf (D : List Deal) (k : ByteArray) (t : Int) : Deal := D.foldl (bestDeal k t) zeroDeal
def valueD (D : List Deal) (k : ByteArray) (t : Int) : ByteArray × Bool := (((writeOf (bestOf D k t).writes k).map (·.value)).getD ⟨#[]⟩, decide (0 < (bestOf D k t).commit))

theorem bestFold {k : ByteArray} {t : Int} : ∀ (D : List Deal) (b0 : Deal), b0.commit ≤ (D.foldl (bestDeal k t) b0).commit ∧ (D.foldl (bestDeal k t) b0 = b0 ∨ (D.foldl (bestDeal k t) b0 ∈ D ∧ fits k t (D.foldl (bestDeal k t) b0))) ∧
    ∀ d ∈ D, fits k t d → d.commit ≤ (D.foldl (bestDeal k t) b0).commit
  | [], b0 => ⟨by simp, .inl rfl, fun d hd => by cases hd⟩
  | d :: D, b0 => by
    rw [List.foldl_cons]
    obtain ⟨h1, h2, h3⟩ := bestFold (k := k) (t := t) D (bestDeal k t b0 d)
    by_cases hm : (writeOf d.writes k).isSome = true ∧ d.commit ≤ t ∧ b0.commit < d.commit
    · have e : bestDeal k t b0 d = d := if_pos hm
      rw [e] at h1 h2 h3 ⊢
      refine ⟨by omega, ?_, fun z hz hf => ?_⟩
      · rcases h2 with h2 | ⟨h2, h4⟩
        · rw [h2]; exact .inr ⟨List.mem_cons_self, hm.1, hm.2.1⟩
        · exact .inr ⟨List.mem_cons_of_mem _ h2, h4⟩
      · rcases List.mem_cons.1 hz with rfl | hz
        · exact h1
        · exact h3 z hz hf
    · have e : bestDeal k t b0 d = b0 := if_neg hm
      rw [e] at h1 h2 h3 ⊢
      refine ⟨h1, ?_, fun z hz hf => ?_⟩
      · rcases h2 with h2 | ⟨h2, h4⟩
        · exact .inl h2
        · exact .inr ⟨List.mem_cons_of_mem _ h2, h4⟩
      · rcases List.mem_cons.1 hz with rfl | hz
        · have : ¬ b0.commit < z.commit := fun h => hm ⟨hf.1, hf.2, h⟩
          omega
        · exact h3 z hz hf

section
variable {clock : Int} {l : List MRow} {P : Int → ByteArray} {D : List Deal} {k : ByteArray} {t : Int}

theorem writeOf_some_of_mem {ws : List MWrite} {k v : ByteArray} (h : (⟨k, v⟩ : MWrite) ∈ ws) : (writeOf ws k).isSome = true := by
  unfold writeOf
  rw [List.find?_isSome]
  exact ⟨_, h, by simp⟩
/-- A transaction that was committed, at a row that nobody keeps from being read at that time. -/
theorem deal_rec (hc : 0 ≤ clock) (hv : RowsVal clock l) (h : Inv l P D) (hfree : ∀ s p v, Lk l k s p v → t < s) {d : Deal} (hd : d ∈ D) (hf : fits k t d) : ∃ y, writeOf d.writes k = some y ∧ Rc l k d.start d.commit y.value := by
  obtain ⟨y, hy⟩ := Option.isSome_iff_exists.1 hf.1
  obtain ⟨hm, he⟩ := writeOf_mem hy
  refine ⟨y, hy, ?_⟩
  obtain ⟨hne, ⟨v, hp⟩, hw, _⟩ := h.deal d hd
  rcases hw y hm with ⟨p, h1⟩ | h1
  · rw [he] at h1
    have h2 := hfree _ _ _ h1
    have h3 := ((rc_bound hc hv hp).2.2 hne).1
    have h4 := hf.2
    omega
  · rw [he] at h1; exact h1

theorem lastHit_spec {rs : List MRec} (hg : RecsGood rs) : (lastHit rs t = none → ∀ x ∈ rs, x.commit ≠ 0 → ¬ x.commit ≤ t) ∧
    ∀ x, lastHit rs t = some x → x ∈ rs ∧ x.commit ≠ 0 ∧ x.commit ≤ t ∧ ∀ y ∈ rs, y.commit ≠ 0 → y.commit ≤ t → y = x ∨ y.commit < x.commit := by
  constructor
  · intro h x hx h0 hle
    unfold lastHit at h
    rw [List.find?_eq_none] at h
    exact h x (List.mem_reverse.2 hx) (by simp [hitB, h0, hle])
  · intro x h
    unfold lastHit at h
    rw [List.find?_eq_some_iff_getElem] at h
    obtain ⟨hp, i, hi, hx, hb⟩ := h
    simp only [hitB, Bool.and_eq_true, Bool.not_eq_true', decide_eq_false_iff_not, decide_eq_true_eq] at hp
    have hil : i < rs.length := by simpa using hi
    rw [List.getElem_reverse] at hx
    refine ⟨by rw [← hx]; exact List.getElem_mem _, hp.1, hp.2, fun y hy h0 hle => ?_⟩
    obtain ⟨j, hj, rfl⟩ := List.mem_iff_getElem.1 hy
    rcases Nat.lt_trichotomy j (rs.length - 1 - i) with hlt | heq | hgt
    · have hr := (List.pairwise_iff_getElem.1 hg.pair j (rs.length - 1 - i) hj (by omega) hlt)
      rw [hx] at hr
      have h2 := hr.2 hp.1
      have h3 := ((hg.each x (by rw [← hx]; exact List.getElem_mem _)).2.2.2.2 hp.1).1
      exact .inr (by omega)
    · subst heq; exact .inl hx
    · have := hb (rs.length - 1 - j) (by omega)
      rw [List.getElem_reverse] at this
      have e : rs.length - 1 - (rs.length - 1 - j) = j := by omega
      simp only [e] at this
      simp [hitB, h0, hle] at this

/-- What a row that may be read tells is what was committed. -/
theorem read_value (hc : 0 ≤ clock) (hv : RowsVal clock l) (h : Inv l P D) (hfree : ∀ s p v, Lk l k s p v → t < s) : ((hitRes (lastHit (rv l k).recs t)).1, (hitRes (lastHit (rv l k).recs t)).2.1) = valueD D k t := by
  have hg := rv_good hc hv k
  obtain ⟨hn, hs⟩ := lastHit_spec (t := t) hg.recs
  obtain ⟨_, hb2, hb3⟩ := bestFold (k := k) (t := t) D zeroDeal
  have hbe : D.foldl (bestDeal k t) zeroDeal = bestOf D k t := rfl
  rw [hbe] at hb2 hb3
  unfold valueD
  cases hl : lastHit (rv l k).recs t with
  | none =>
    have hz : bestOf D k t = zeroDeal := by
      rcases hb2 with e | ⟨hm, hf⟩
      · exact e
      · obtain ⟨y, _, hrc⟩ := deal_rec hc hv h hfree hm hf
        exact absurd hf.2 (hn hl _ hrc (h.deal _ hm).1)
    rw [hz]
    rfl
  | some x =>
    obtain ⟨hx, h0, hle, hmax⟩ := hs x hl
    obtain ⟨d, hd, e1, e2, hw⟩ := h.told k x.start x.commit x.value hx h0
    have hfd : fits k t d := ⟨writeOf_some_of_mem hw, by rw [e2]; exact hle⟩
    have hge := hb3 d hd hfd
    have hxc : 0 < x.commit := by
      have := (rc_bound hc hv (show Rc l k x.start x.commit x.value from hx)).2.2 h0
      have := (rc_bound hc hv (show Rc l k x.start x.commit x.value from hx)).1
      omega
    rcases hb2 with e | ⟨hm, hf⟩
    · rw [e] at hge
      have : d.commit ≤ 0 := hge
      omega
    · obtain ⟨y, hy, hrc⟩ := deal_rec hc hv h hfree hm hf
      have hby := hmax _ hrc (h.deal _ hm).1 hf.2
      rcases hby with e | e
      · rw [hy]
        have ev : y.value = x.value := congrArg MRec.value e
        have ec : (bestOf D k t).commit = x.commit := congrArg MRec.commit e
        rw [ec]
        show (x.value, true) = (y.value, decide (0 < x.commit))
        rw [ev, decide_eq_true hxc]
      · dsimp only at e; omega

/-- Of two committed transactions that wrote the same row, one was committed before the other began. -/
theorem apart_deals (hc : 0 ≤ clock) (hv : RowsVal clock l) (h : Inv l P D) {a b : Deal} (ha : a ∈ D) (hb : b ∈ D) (hne : a.start ≠ b.start) (hka : (writeOf a.writes k).isSome = true) (hkb : (writeOf b.writes k).isSome = true) : ¬ (b.start < a.commit ∧ a.start < b.commit) := by
  obtain ⟨y, hy⟩ := Option.isSome_iff_exists.1 hka
  obtain ⟨z, hz⟩ := Option.isSome_iff_exists.1 hkb
  obtain ⟨hym, hyk⟩ := writeOf_mem hy
  obtain ⟨hzm, hzk⟩ := writeOf_mem hz
  obtain ⟨a0, _, aw, _⟩ := h.deal a ha
  obtain ⟨b0, _, bw, _⟩ := h.deal b hb
  rintro ⟨h1, h2⟩
  rcases aw y hym with ⟨p, ra⟩ | ra
  · rcases bw z hzm with ⟨q, rb⟩ | rb
    · rw [hyk] at ra; rw [hzk] at rb
      exact hne (lk_uniq ra rb).1
    · rw [hyk] at ra; rw [hzk] at rb
      have := lk_rc_sep hc hv ra rb; omega
  · rcases bw z hzm with ⟨q, rb⟩ | rb
    · rw [hyk] at ra; rw [hzk] at rb
      have := lk_rc_sep hc hv rb ra; omega
    · rw [hyk] at ra; rw [hzk] at rb
      rcases Int.lt_or_gt_of_ne hne with hlt | hlt
      · have := rc_sep hc hv ra rb b0 hlt; omega
      · have := rc_sep hc hv rb ra a0 hlt; omega
end
end Go.Proofs.YtniomgngiiiklabDoor

/- The endings of TopResolved and TopAsking: locks are asked for and gone, and then what is read is what was committed; no program in sight. -/
namespace Go.Proofs.YtniomgngiiiklabDoor
open Go.RowKit

/-! ### locks and writes at some keys alone -/
def KI (K : ByteArray → Prop) (l : List MRow) (cs : List MClient) : Prop := (∀ k s p v, Lk l k s p v → K k) ∧ ∀ x ∈ cs, ∀ y ∈ x.writes, K y.key
section
variable {clock : Int} {l l' : List MRow} {cs : List MClient} {K : ByteArray → Prop} {x : MClient} {c : Nat}
def LessLk (l l' : List MRow) : Prop := ∀ k s p v, Lk l' k s p v → Lk l k s p v
theorem undoAt_less {k : ByteArray} {s : Int} (hc : 0 ≤ clock) (hv : RowsVal clock l) : LessLk l (undoAt l k s).1 := by
  intro k' s' p v h
  by_cases h0 : (undoAt l k s).2 = 0
  · exact (((undo_step hc hv h0).2.1 _ _ _ _).1 h).1
  · have e : (undoAt l k s).1 = l := atRow_miss h0
    rwa [e] at h
theorem commitAt_less {k : ByteArray} {s cm : Int} (hv : RowsVal clock l) : LessLk l (atRow l k (fun r => commitRow r s cm) (fun r => commitCode r s cm)).1 := by
  intro k' s' p v h
  by_cases h0 : (atRow l k (fun r => commitRow r s cm) (fun r => commitCode r s cm)).2 = 0
  · obtain ⟨_, _, _, _, hl, _⟩ := commit_step hv h0
    exact ((hl _ _ _ _).1 h).1
  · rwa [atRow_miss h0] at h
theorem failRows_less {s : Int} (hc : 0 ≤ clock) (hs : s ≤ clock) : ∀ {ws : List MWrite} {l : List MRow}, RowsVal clock l → LessLk l (failRows l ws s)
  | [], _, _ => fun _ _ _ _ h => h
  | y :: ws, l, hv => by
    have h1 : LessLk l (failStep s l y) := by
      unfold failStep
      split
      · exact undoAt_less hc hv
      · exact fun _ _ _ _ h => h
    have h2 := failRows_less hc hs (ws := ws) (failStep_good (x := y) hc hs hv)
    exact fun k s' p v h => h1 _ _ _ _ (h2 _ _ _ _ h)
theorem ki_set (h : KI K l cs) (hl : ∀ k s p v, Lk l' k s p v → K k) (hx : ∀ y ∈ x.writes, K y.key) : KI K l' (cs.set c x) :=
  ⟨hl, fun z hz => by
    rcases mem_set_clients hz with rfl | hz
    · exact hx
    · exact h.2 z hz⟩
theorem ki_fail {w : MWorld} (hg : WorldGood w) (hs : x.start ≤ w.clock) (h : KI K w.rows w.clients) : KI K (failM w c x).rows (failM w c x).clients :=
  ki_set h (fun k s p v h1 => h.1 _ _ _ _ (failRows_less hg.clock.1 hs hg.rows _ _ _ _ h1)) (fun y hy => by cases hy)
theorem writeNo_mem {k : Int} (h0 : 0 ≤ k) (hk : k < x.writes.length) : writeNo x k ∈ x.writes := by
  unfold writeNo
  rw [List.getElem?_eq_getElem (by omega)]
  exact List.getElem_mem _
theorem ki_lock {w : MWorld} (hg : WorldGood w) (hs : x.start ≤ w.clock) (h0 : 0 ≤ x.at_) (hk : x.at_ < x.writes.length) (h : KI K w.rows w.clients) (hx : ∀ y ∈ x.writes, K y.key) : KI K (lockM w c x).1.rows (lockM w c x).1.clients := by
  unfold lockM
  split
  · rename_i h1
    refine ki_set h (fun k s p v h2 => ?_) hx
    unfold lockAt at h1 h2
    obtain ⟨_, _, _, hl, _⟩ := lock_step hg.clock.1 hg.rows h1
    rcases (hl _ _ _ _).1 h2 with ⟨rfl, _⟩ | h2
    · exact hx _ (writeNo_mem h0 hk)
    · exact h.1 _ _ _ _ h2
  · split
    · exact ki_set h h.1 hx
    · exact ki_fail hg hs h
theorem ki_act {w : MWorld} {a : MAct} (h0 : doCode w a = 0) (ha : a.kind = 3 → K a.key) (h : KI K w.rows w.clients) : KI K (doM w a).1.rows (doM w a).1.clients := by
  obtain ⟨hg, hk, hcl, hclock⟩ := doCode_ok h0
  have hcl' : a.c.toNat < w.clients.length := by omega
  have hmem := clientAt_mem hcl'
  have hx := h.2 _ hmem
  have hB := hg.clients _ hmem
  unfold doM
  rw [if_pos h0]
  dsimp only
  unfold actM
  split
  · exact h
  rename_i hst
  split
  · exact ki_set h h.1 (fun y hy => by cases hy)
  split
  · exact h
  split
  · rename_i h3
    unfold putM
    split
    · exact h
    split
    · exact h
    split
    · exact h
    · refine ki_set h h.1 (fun y hy => ?_)
      rcases mem_putWrite hy with rfl | hy
      · exact ha h3
      · exact hx y hy
  split
  · unfold stepM
    split
    · exact h
    rename_i hp0
    have hb := busy_of hB hp0
    have hbp := hb.phase
    have hbs := hb.start
    split
    · exact ki_set h h.1 (fun y hy => by cases hy)
    split
    · exact ki_lock hg (x := { clientAt w a.c.toNat with phase := 2 }) (by show (clientAt w a.c.toNat).start ≤ _; omega) (by show 0 ≤ (clientAt w a.c.toNat).at_; omega) (by show (clientAt w a.c.toNat).at_ < ((clientAt w a.c.toNat).writes.length : Int); omega) h hx
    split
    · exact ki_lock hg (by omega) (by omega) (by omega) h hx
    split
    · exact ki_set h h.1 hx
    · show KI K (closeM w a.c.toNat (clientAt w a.c.toNat)).1.rows (closeM w a.c.toNat (clientAt w a.c.toNat)).1.clients
      unfold closeM
      split
      · exact ki_fail hg (by omega) h
      · refine ki_set h (fun k s p v h1 => h.1 _ _ _ _ (commitAt_less hg.rows _ _ _ _ h1)) (fun y hy => ?_)
        split at hy
        · cases hy
        · exact hx y hy
  split
  · exact ki_set h h.1 (fun y hy => by cases hy)
  · refine ⟨fun k s p v h1 => h.1 k s p v ?_, h.2⟩
    revert h1
    show Lk (resolveR w.rows a.key).1 k s p v → _
    unfold resolveR
    split
    · exact id
    split
    · exact id
    rename_i r hr
    split
    · exact id
    split
    · exact commitAt_less hg.rows _ _ _ _
    split
    · exact id
    · intro h1
      have hrr := (hg.rows.each r (rowAt_mem hr).1).2.1
      exact undoAt_less hg.clock.1 hg.rows _ _ _ _ (undoAt_less hg.clock.1 (undoAt_good hg.clock.1 hrr hg.rows) _ _ _ _ h1)
theorem ki_start {n : Nat} : KI K (startW n).rows (startW n).clients :=
  ⟨fun k s p v h => absurd h.2.1.symm h.1, fun x hx y hy => by
    rw [(List.mem_replicate.1 hx).2] at hy; cases hy⟩
theorem ki_run {n : Nat} : ∀ {l : List MAct} {w : MWorld} {m : Nat}, Fit n (l.length + m) w → (∀ a ∈ l, ActOk n a) → (∀ a ∈ l, a.kind = 3 → K a.key) → KI K w.rows w.clients → KI K (l.foldl stepW w).rows (l.foldl stepW w).clients
  | [], _, _, _, _, _, h => h
  | a :: l, w, m, hf, ha, hk, h => by
    have hf' : Fit n (l.length + m + 1) w := by rw [List.length_cons] at hf; rw [show l.length + m + 1 = l.length + 1 + m by omega]; exact hf
    have ha0 := ha a List.mem_cons_self
    rw [List.foldl_cons]
    exact ki_run (l := l) (fit_step hf' ha0) (fun b hb => ha b (List.mem_cons_of_mem _ hb)) (fun b hb => hk b (List.mem_cons_of_mem _ hb)) (ki_act (fit_code hf' ha0) (hk a List.mem_cons_self) h)
end

/-! ### asking for locks -/
def dropA (c : Nat) : MAct := ⟨5, c, ⟨#[]⟩, ⟨#[]⟩⟩
def askA (k : ByteArray) : MAct := ⟨6, 0, k, ⟨#[]⟩⟩
def beginA : MAct := ⟨1, 0, ⟨#[]⟩, ⟨#[]⟩⟩
def getA (k : ByteArray) : MAct := ⟨2, 0, k, ⟨#[]⟩⟩
theorem ask_ok {n : Nat} {k : ByteArray} (hn : 1 ≤ n) : ActOk n (askA k) := by unfold ActOk askA; dsimp only; omega
theorem get_ok {n : Nat} {k : ByteArray} (hn : 1 ≤ n) : ActOk n (getA k) := by unfold ActOk getA; dsimp only; omega
theorem begin_ok {n : Nat} (hn : 1 ≤ n) : ActOk n beginA := by unfold ActOk beginA; dsimp only; omega
theorem drop_ok {n c : Nat} (hn : c < n) : ActOk n (dropA c) := by unfold ActOk dropA; dsimp only; omega
theorem ask_kind {k : ByteArray} : (askA k).kind ≠ 3 ∧ (askA k).kind ≠ 4 := by unfold askA; dsimp only; omega
theorem get_kind {k : ByteArray} : (getA k).kind ≠ 3 ∧ (getA k).kind ≠ 4 := by unfold getA; dsimp only; omega
theorem drop_kind {c : Nat} : (dropA c).kind ≠ 3 ∧ (dropA c).kind ≠ 4 := by unfold dropA; dsimp only; omega
theorem begin_kind : beginA.kind ≠ 3 ∧ beginA.kind ≠ 4 := by unfold beginA; dsimp only; omega

section
variable {n m : Nat} {w : MWorld} {K : ByteArray → Prop} {P : Int → ByteArray} {D : List Deal}
/-- What is known of a world at any place of the ending. -/
structure Tail (n m : Nat) (w : MWorld) (D : List Deal) (K : ByteArray → Prop) : Prop where
  fit : Fit n m w
  inv : ∃ P, WInv w.rows w.clients P D
  keys : KI K w.rows w.clients
theorem tail_step {a : MAct} (h : Tail n (m + 1) w D K) (ha : ActOk n a) (hk : a.kind ≠ 3 ∧ a.kind ≠ 4) : Tail n m (stepW w a) D K := by
  have h0 := fit_code h.fit ha
  obtain ⟨P, hw⟩ := h.inv
  obtain ⟨P', h1⟩ := act_winv h0 hw
  have e : dealsOf w a = [] := if_neg fun h => hk.2 h.1
  rw [e, List.append_nil] at h1
  exact ⟨fit_step h.fit ha, ⟨P', h1⟩, ki_act h0 (fun h3 => absurd h3 hk.1) h.keys⟩
theorem tail_run : ∀ {l : List MAct} {w : MWorld}, Tail n (l.length + m) w D K → (∀ a ∈ l, ActOk n a ∧ a.kind ≠ 3 ∧ a.kind ≠ 4) → Tail n m (l.foldl stepW w) D K
  | [], _, h, _ => by simpa using h
  | a :: l, w, h, ha => by
    have h' : Tail n (l.length + m + 1) w D K := by rw [List.length_cons] at h; rw [show l.length + m + 1 = l.length + 1 + m by omega]; exact h
    obtain ⟨h1, h2⟩ := ha a List.mem_cons_self
    rw [List.foldl_cons]
    exact tail_run (l := l) (tail_step h' h1 h2) fun b hb => ha b (List.mem_cons_of_mem _ hb)

theorem drop_step {c : Nat} (h : doCode w (dropA c) = 0) : (stepW w (dropA c)).rows = w.rows ∧ ((clientAt (stepW w (dropA c)) c).phase = 0) ∧ ∀ c', c' ≠ c → clientAt (stepW w (dropA c)) c' = clientAt w c' := by
  obtain ⟨_, _, hcl, _⟩ := doCode_ok h
  have hcl' : c < w.clients.length := by have := hcl.2; show c < _; have e : (dropA c).c = (c : Int) := rfl; omega
  unfold stepW doM
  rw [if_pos h]
  dsimp only
  show (actM w (dropA c) c (clientAt w c)).1.rows = _ ∧ _
  by_cases h0 : (clientAt w c).phase = 0
  · have e : (actM w (dropA c) c (clientAt w c)).1 = w := by
      unfold actM; rw [if_pos (.inr (.inr ⟨rfl, h0⟩))]
    show _ ∧ (clientAt (actM w (dropA c) c (clientAt w c)).1 c).phase = 0 ∧ ∀ c', c' ≠ c → clientAt (actM w (dropA c) c (clientAt w c)).1 c' = clientAt w c'
    rw [e]
    exact ⟨rfl, h0, fun _ _ => rfl⟩
  · have e : (actM w (dropA c) c (clientAt w c)).1 = setC w c zeroClient := by
      simp [actM, dropA, h0]
    show _ ∧ (clientAt (actM w (dropA c) c (clientAt w c)).1 c).phase = 0 ∧ ∀ c', c' ≠ c → clientAt (actM w (dropA c) c (clientAt w c)).1 c' = clientAt w c'
    rw [e]
    refine ⟨rfl, ?_, fun c' hc' => ?_⟩
    · unfold clientAt setC
      simp [hcl', zeroClient]
    · unfold clientAt setC
      dsimp only
      rw [List.getElem?_set_ne (fun e => hc' e.symm)]
theorem ask_step {k : ByteArray} (h : doCode w (askA k) = 0) : (stepW w (askA k)).rows = (resolveR w.rows k).1 ∧ (stepW w (askA k)).clients = w.clients ∧ (stepW w (askA k)).clock = w.clock ∧ (doM w (askA k)).2.1.code = (resolveR w.rows k).2 := by
  have e : actM w (askA k) 0 (clientAt w 0) = ({ w with rows := (resolveR w.rows k).1 }, { zeroAns with code := (resolveR w.rows k).2 }) := by
    simp [actM, askA]
  have e2 : doM w (askA k) = ({ w with rows := (resolveR w.rows k).1 }, { ({ zeroAns with code := (resolveR w.rows k).2 } : MAns) with phase := (clientAt ({ w with rows := (resolveR w.rows k).1 } : MWorld) 0).phase }, 0) := by
    have hc : (askA k).c.toNat = 0 := rfl
    simp only [doM, if_pos h, hc, e]
  unfold stepW
  rw [e2]
  exact ⟨rfl, rfl, rfl, rfl⟩
theorem begin_step (h : doCode w beginA = 0) (h0 : (clientAt w 0).phase = 0) : (stepW w beginA).rows = w.rows ∧ clientAt (stepW w beginA) 0 = ⟨1, w.clock + 1, 0, [], 0⟩ ∧ (stepW w beginA).clock = w.clock + 1 := by
  obtain ⟨_, _, hcl, _⟩ := doCode_ok h
  have hcl' : 0 < w.clients.length := by have := hcl.2; have e : beginA.c = 0 := rfl; omega
  have e : (actM w beginA 0 (clientAt w 0)).1 = { w with clock := w.clock + 1, clients := w.clients.set 0 ⟨1, w.clock + 1, 0, [], 0⟩ } := by
    simp [actM, beginA, h0]
  have e2 : stepW w beginA = { w with clock := w.clock + 1, clients := w.clients.set 0 ⟨1, w.clock + 1, 0, [], 0⟩ } := by
    unfold stepW doM
    rw [if_pos h]
    exact e
  rw [e2]
  refine ⟨rfl, ?_, rfl⟩
  unfold clientAt
  simp [hcl']
theorem get_step {k : ByteArray} (h : doCode w (getA k) = 0) (h1 : (clientAt w 0).phase = 1) : stepW w (getA k) = w ∧ (doM w (getA k)).2.1.code = (getM w (clientAt w 0) k).2.2 ∧ (doM w (getA k)).2.1.value = (getM w (clientAt w 0) k).1 ∧ (doM w (getA k)).2.1.is = (getM w (clientAt w 0) k).2.1 ∧ (doM w (getA k)).2.1.phase = (clientAt w 0).phase ∧ (doM w (getA k)).2.1.time = 0 := by
  have e : actM w (getA k) 0 (clientAt w 0) = (w, { zeroAns with code := (getM w (clientAt w 0) k).2.2, value := (getM w (clientAt w 0) k).1, is := (getM w (clientAt w 0) k).2.1 }) := by
    simp [actM, getA, h1]
  have e2 : doM w (getA k) = (w, { ({ zeroAns with code := (getM w (clientAt w 0) k).2.2, value := (getM w (clientAt w 0) k).1, is := (getM w (clientAt w 0) k).2.1 } : MAns) with phase := (clientAt w 0).phase }, 0) := by
    have hc : (getA k).c.toNat = 0 := rfl
    simp only [doM, if_pos h, hc, e]
  unfold stepW
  rw [e2]
  exact ⟨rfl, rfl, rfl, rfl, rfl, rfl⟩

/-- After the lock of each key was asked for, none is left there. -/
theorem asks_free : ∀ {ks : List ByteArray} {w : MWorld}, (∀ k ∈ ks, keyB k = true) → 1 ≤ n → Tail n (ks.length + m) w D K →
    (∀ k s p v, Lk ((ks.map askA).foldl stepW w).rows k s p v → k ∉ ks ∧ Lk w.rows k s p v) ∧ ((ks.map askA).foldl stepW w).clients = w.clients ∧ ((ks.map askA).foldl stepW w).clock = w.clock
  | [], w, _, _, _ => ⟨fun k s p v h => ⟨by simp, h⟩, rfl, rfl⟩
  | k :: ks, w, hk, hn, h => by
    have h' : Tail n (ks.length + m + 1) w D K := by rw [List.length_cons] at h; rw [show ks.length + m + 1 = ks.length + 1 + m by omega]; exact h
    have ha : ActOk n (askA k) := ask_ok hn
    have h0 := fit_code h'.fit ha
    obtain ⟨e1, e2, e3, _⟩ := ask_step h0
    obtain ⟨P, hw⟩ := h'.inv
    obtain ⟨_, _, h1, h2⟩ := resolve_inv (k := k) h'.fit.good.clock h'.fit.good.rows hw.inv
    obtain ⟨_, h1⟩ := h1 (hk k List.mem_cons_self)
    obtain ⟨g1, g2, g3⟩ := asks_free (ks := ks) (fun x hx => hk x (List.mem_cons_of_mem _ hx)) hn (tail_step h' ha ask_kind)
    rw [List.map_cons, List.foldl_cons]
    refine ⟨fun k' s p v hl => ?_, g2.trans e2, g3.trans e3⟩
    obtain ⟨i1, i2⟩ := g1 k' s p v hl
    rw [e1] at i2
    refine ⟨fun hm => ?_, h2 _ _ _ _ i2⟩
    rcases List.mem_cons.1 hm with rfl | hm
    · exact h1 _ _ _ i2
    · exact i1 hm
theorem drops_idle : ∀ {cs : List Nat} {w : MWorld}, (∀ c ∈ cs, c < n) → Tail n (cs.length + m) w D K →
    ((cs.map dropA).foldl stepW w).rows = w.rows ∧ ∀ c, (c ∈ cs ∨ (clientAt w c).phase = 0) → (clientAt ((cs.map dropA).foldl stepW w) c).phase = 0
  | [], w, _, _ => ⟨rfl, fun c h => by rcases h with h | h; (· cases h); (· exact h)⟩
  | c :: cs, w, hc, h => by
    have h' : Tail n (cs.length + m + 1) w D K := by rw [List.length_cons] at h; rw [show cs.length + m + 1 = cs.length + 1 + m by omega]; exact h
    have hcn := hc c List.mem_cons_self
    have ha : ActOk n (dropA c) := drop_ok hcn
    have h0 := fit_code h'.fit ha
    obtain ⟨e1, e2, e3⟩ := drop_step h0
    obtain ⟨g1, g2⟩ := drops_idle (cs := cs) (fun x hx => hc x (List.mem_cons_of_mem _ hx)) (tail_step h' ha drop_kind)
    rw [List.map_cons, List.foldl_cons]
    refine ⟨g1.trans e1, fun c' hd => g2 c' ?_⟩
    by_cases hcc : c' = c
    · subst hcc; exact .inr e2
    · rw [e3 c' hcc]
      rcases hd with hd | hd
      · rcases List.mem_cons.1 hd with rfl | hd
        · exact absurd rfl hcc
        · exact .inl hd
      · exact .inr hd
/-- What is got of one key after another by a client that has just begun, where no lock is left. -/
theorem gets_value {t : Int} : ∀ {ks : List ByteArray} {w : MWorld}, (∀ k ∈ ks, keyB k = true) → 1 ≤ n → Tail n (ks.length + m) w D K → (∀ k s p v, ¬ Lk w.rows k s p v) → clientAt w 0 = ⟨1, t, 0, [], 0⟩ →
    (ks.map getA).foldl stepW w = w ∧ ansFrom w (ks.map getA) = ks.map fun k => ⟨0, (valueD D k t).2, (valueD D k t).1, 1, 0⟩
  | [], w, _, _, _, _, _ => ⟨rfl, rfl⟩
  | k :: ks, w, hk, hn, h, hfree, hcl => by
    have h' : Tail n (ks.length + m + 1) w D K := by rw [List.length_cons] at h; rw [show ks.length + m + 1 = ks.length + 1 + m by omega]; exact h
    have ha : ActOk n (getA k) := get_ok hn
    have h0 := fit_code h'.fit ha
    have hph : (clientAt w 0).phase = 1 := by rw [hcl]
    obtain ⟨e1, e2, e3, e4, e5, e6⟩ := get_step h0 hph
    obtain ⟨P, hw⟩ := h'.inv
    have hg := h'.fit.good
    have hval := read_value (k := k) (t := t) hg.clock.1 hg.rows hw.inv (fun s p v hl => absurd hl (hfree _ _ _ _))
    have hB := hg.clients _ (clientAt_mem (w := w) (c := 0) (by have := h'.fit.len; omega))
    have htb : timeB t = true := by
      have := (busy_of hB (by rw [hph]; decide)).start
      rw [hcl] at this
      have h5 : (1 ≤ t ∧ t ≤ w.clock) := this
      exact timeB_of h5.1 (by have := hg.clock.2; omega)
    have hget : getM w (clientAt w 0) k = ((valueD D k t).1, (valueD D k t).2, 0) := by
      rw [hcl]
      unfold getM
      rw [if_neg (by rw [hk k List.mem_cons_self]; decide)]
      rw [show writeOf ([] : List MWrite) k = none from rfl]
      dsimp only
      cases hr : rowAt w.rows k with
      | none =>
        have er : rv w.rows k = emptyRow k := by unfold rv; rw [hr]; rfl
        rw [er] at hval
        rw [← hval]
        rfl
      | some r =>
        have er : rv w.rows k = r := by unfold rv; rw [hr]; rfl
        rw [er] at hval
        have hrb : rowB r = true := rowB_iff.2 (hg.rows.each r (rowAt_mem hr).1).1
        have hl0 : r.ls = 0 := by
          by_cases e : r.ls = 0
          · exact e
          · exact absurd (show Lk w.rows k r.ls r.lp r.value from ⟨e, by rw [er], by rw [er], by rw [er]⟩) (hfree _ _ _ _)
        dsimp only
        unfold readF
        rw [if_pos hrb, if_pos htb, if_neg (fun h => h.1 hl0)]
        rw [← hval]
        unfold hitRes
        cases lastHit r.recs t <;> rfl
    have hrest := tail_step h' ha get_kind
    rw [e1] at hrest
    obtain ⟨g1, g2⟩ := gets_value (ks := ks) (fun x hx => hk x (List.mem_cons_of_mem _ hx)) hn hrest hfree hcl
    rw [List.map_cons, List.foldl_cons, e1]
    refine ⟨g1, ?_⟩
    rw [List.map_cons]
    show (doM w (getA k)).2.1 :: ansFrom (stepW w (getA k)) (ks.map getA) = _
    rw [e1, g2]
    congr 1
    rw [show (doM w (getA k)).2.1 = ⟨(doM w (getA k)).2.1.code, (doM w (getA k)).2.1.is, (doM w (getA k)).2.1.value, (doM w (getA k)).2.1.phase, (doM w (getA k)).2.1.time⟩ from rfl, e2, e3, e4, e5, e6, hget, hph]

/-- What was committed up to a time, told at a later one. -/
theorem valueD_late {k : ByteArray} {t t' : Int} (h1 : ∀ d ∈ D, d.commit ≤ t) (h2 : ∀ d ∈ D, d.commit ≤ t') : valueD D k t = valueD D k t' := by
  have e : ∀ (l : List Deal) (b : Deal), (∀ d ∈ l, d ∈ D) → l.foldl (bestDeal k t) b = l.foldl (bestDeal k t') b := by
    intro l
    induction l with
    | nil => intro b _; rfl
    | cons d l ih =>
      intro b hl
      have hd := hl d List.mem_cons_self
      rw [List.foldl_cons, List.foldl_cons, show bestDeal k t b d = bestDeal k t' b d from by
        unfold bestDeal
        have a1 := h1 d hd
        have a2 := h2 d hd
        simp only [a1, a2, true_and]]
      exact ih _ fun d hd => hl d (List.mem_cons_of_mem _ hd)
  unfold valueD bestOf
  rw [e D zeroDeal fun _ h => h]
theorem tail_commits (h : Tail n m w D K) : ∀ d ∈ D, d.commit ≤ w.clock := by
  obtain ⟨P, hw⟩ := h.inv
  intro d hd
  obtain ⟨_, ⟨v, hv⟩, _⟩ := hw.inv.deal d hd
  exact (rc_bound h.fit.good.clock.1 h.fit.good.rows hv).1.2.2

def endActs (n : Nat) (ks : List ByteArray) : List MAct := (List.range n).map dropA ++ (ks.map askA ++ (beginA :: ks.map getA))
/-- The ending of TopResolved. -/
theorem end_all {ks : List ByteArray} (hk : ∀ k ∈ ks, keyB k = true) (hn : 1 ≤ n) (h : Tail n (n + (ks.length + (ks.length + m + 1))) w D (fun k => k ∈ ks)) :
    (∀ r ∈ ((endActs n ks).foldl stepW w).rows, r.ls = 0) ∧ ∃ pre, ansFrom w (endActs n ks) = pre ++ ks.map fun k => ⟨0, (valueD D k 1099511627776).2, (valueD D k 1099511627776).1, 1, 0⟩ := by
  have hd := drops_idle (n := n) (cs := List.range n) (m := ks.length + (ks.length + m + 1)) (by simp) (by rw [List.length_range]; exact h)
  have h1 : Tail n (ks.length + (ks.length + m + 1)) (((List.range n).map dropA).foldl stepW w) D _ := tail_run (by rw [List.length_map, List.length_range]; exact h) (fun a ha => by
    obtain ⟨c, hc, rfl⟩ := List.mem_map.1 ha
    exact ⟨drop_ok (by simpa using hc), drop_kind⟩)
  have hc1 := hd.2 0 (.inl (by simp; omega))
  have hr1 := hd.1
  unfold endActs
  rw [List.foldl_append, List.foldl_append, List.foldl_cons, ansFrom_append, ansFrom_append]
  generalize ((List.range n).map dropA).foldl stepW w = w1 at h1 hc1 hr1
  obtain ⟨g1, g2, g3⟩ := asks_free (ks := ks) hk hn h1
  have h2 : Tail n (ks.length + m + 1) ((ks.map askA).foldl stepW w1) D _ := tail_run (by rw [List.length_map]; exact h1) (fun a ha => by
    obtain ⟨k, _, rfl⟩ := List.mem_map.1 ha
    exact ⟨ask_ok hn, ask_kind⟩)
  have hfree : ∀ k s p v, ¬ Lk ((ks.map askA).foldl stepW w1).rows k s p v := fun k s p v hl => (g1 k s p v hl).1 (h2.keys.1 _ _ _ _ hl)
  have hc2 : (clientAt ((ks.map askA).foldl stepW w1) 0).phase = 0 := by unfold clientAt; rw [g2]; exact hc1
  generalize (ks.map askA).foldl stepW w1 = w2 at h2 hfree hc2
  have hb0 := fit_code h2.fit (begin_ok hn)
  obtain ⟨b1, b2, b3⟩ := begin_step hb0 hc2
  have h3 := tail_step h2 (begin_ok hn) begin_kind
  have hfree3 : ∀ k s p v, ¬ Lk (stepW w2 beginA).rows k s p v := fun k s p v => by rw [b1]; exact hfree k s p v
  obtain ⟨e1, e2⟩ := gets_value hk hn h3 hfree3 b2
  rw [e1]
  refine ⟨fun r hr => ?_, ?_⟩
  · by_cases h0 : r.ls = 0
    · exact h0
    · have er : rv (stepW w2 beginA).rows r.key = r := by unfold rv; rw [rowAt_of_mem h3.fit.good.rows.sorted hr]; rfl
      exact absurd (show Lk (stepW w2 beginA).rows r.key r.ls r.lp r.value from ⟨h0, by rw [er], by rw [er], by rw [er]⟩) (hfree3 _ _ _ _)
  · refine ⟨ansFrom w ((List.range n).map dropA) ++ (ansFrom w1 (ks.map askA) ++ [(doM w2 beginA).2.1]), ?_⟩
    show _ ++ (_ ++ ((doM w2 beginA).2.1 :: ansFrom (stepW w2 beginA) (ks.map getA))) = _
    rw [e2]
    have hcm := tail_commits h2
    have hck := h2.fit.good.clock.2
    have ev : ∀ k, valueD D k (w2.clock + 1) = valueD D k 1099511627776 := fun k => valueD_late (fun d hd => by have := hcm d hd; omega) (fun d hd => by have := hcm d hd; omega)
    simp [ev]
/-- The ending of TopAsking. -/
theorem end_ask {k : ByteArray} (hk : keyB k = true) (hn : 1 ≤ n) (h : Tail n (m + 1 + 1) w D K) :
    (∀ r ∈ (stepW (stepW w (askA k)) (askA k)).rows, ∀ z ∈ r.recs, z.commit ≠ 0 → ∃ d ∈ D, d.start = z.start ∧ d.commit = z.commit ∧ (⟨r.key, z.value⟩ : MWrite) ∈ d.writes) ∧ (doM (stepW w (askA k)) (askA k)).2.1.code = 5 := by
  have h0 := fit_code h.fit (ask_ok (k := k) hn)
  obtain ⟨e1, _, _, _⟩ := ask_step h0
  obtain ⟨P, hw⟩ := h.inv
  obtain ⟨_, _, h1, _⟩ := resolve_inv (k := k) h.fit.good.clock h.fit.good.rows hw.inv
  have hfree := (h1 hk).2
  rw [← e1] at hfree
  have h2 := tail_step h (ask_ok (k := k) hn) ask_kind
  have h3 := tail_step h2 (ask_ok (k := k) hn) ask_kind
  have g0 := fit_code h2.fit (ask_ok (k := k) hn)
  obtain ⟨_, _, _, c2⟩ := ask_step g0
  obtain ⟨P3, hw3⟩ := h3.inv
  refine ⟨fun r hr z hz hc => ?_, ?_⟩
  · have er : rv (stepW (stepW w (askA k)) (askA k)).rows r.key = r := by unfold rv; rw [rowAt_of_mem h3.fit.good.rows.sorted hr]; rfl
    exact hw3.inv.told r.key z.start z.commit z.value (by unfold Rc; rw [er]; exact hz) hc
  · rw [c2]
    generalize stepW w (askA k) = w1 at hfree
    unfold resolveR
    rw [if_neg (by rw [hk]; decide)]
    cases hr : rowAt w1.rows k with
    | none => rfl
    | some r =>
      have er : rv w1.rows k = r := by unfold rv; rw [hr]; rfl
      have hl0 : r.ls = 0 := by
        by_cases e : r.ls = 0
        · exact e
        · exact absurd (show Lk w1.rows k r.ls r.lp r.value from ⟨e, by rw [er], by rw [er], by rw [er]⟩) (hfree _ _ _)
      dsimp only
      rw [if_pos hl0]
end
end Go.Proofs.YtniomgngiiiklabDoor

/- What can be told of a script from its acts and answers alone is what happens in the world; no program in sight. -/
namespace Go.Proofs.YtniomgngiiiklabDoor
open Go.RowKit

structure MTrack where
  phase : Int
  start : Int
  commit : Int
  writes : List MWrite
def zeroTrack : MTrack := ⟨0, 0, 0, []⟩
def trackTurn (t : MTrack) (a : MAct) (x : MAns) : MTrack :=
  if x.code = 0 then (if a.kind = 1 then ⟨0, x.time, 0, []⟩ else if a.kind = 3 then { t with writes := putWrite t.writes ⟨a.key, a.value⟩ } else if a.kind = 4 ∧ x.time ≠ 0 then { t with commit := x.time } else t) else t
def trackStep (t : MTrack) (a : MAct) (x : MAns) : MTrack := { trackTurn t a x with phase := x.phase }
def trackDeal (t : MTrack) (a : MAct) (x : MAns) : List Deal := if x.code = 0 ∧ a.kind = 4 ∧ t.phase = 3 then [⟨t.start, (trackTurn t a x).commit, t.writes⟩] else []
structure Like (t : MTrack) (x : MClient) : Prop where
  phase : t.phase = x.phase
  same : x.phase ≠ 0 → t.start = x.start ∧ t.writes = x.writes
  commit : x.phase = 3 ∨ x.phase = 4 → t.commit = x.commit

section
variable {w : MWorld} {a : MAct} {t : MTrack}
theorem turn_other {x : MAns} (h : a.kind ≠ 1 ∧ a.kind ≠ 3 ∧ a.kind ≠ 4) : trackTurn t a x = t := by
  unfold trackTurn
  by_cases h0 : x.code = 0
  · rw [if_pos h0, if_neg h.1, if_neg h.2.1, if_neg (fun e => h.2.2 e.1)]
  · rw [if_neg h0]
theorem turn_idle {x : MAns} (h1 : a.kind ≠ 1) (h3 : a.kind ≠ 3) (h : x.time = 0) : trackTurn t a x = t := by
  unfold trackTurn
  split
  · first | rw [if_neg h1, if_neg h3, if_neg (fun e => e.2 h)] | rw [if_neg (fun e => e.2 h)]
  · rfl
theorem lockM_client {c : Nat} {x : MClient} (hc : c < w.clients.length) :
    (clientAt (lockM w c x).1 c = { x with at_ := x.at_ + 1 } ∧ (lockM w c x).2 = 0) ∨ (clientAt (lockM w c x).1 c = x ∧ (lockM w c x).2 = 7) ∨ (clientAt (lockM w c x).1 c = zeroClient ∧ (lockM w c x).2 ≠ 0) := by
  have hget : ∀ (l : List MRow) (k : Int) (y : MClient), clientAt ⟨l, k, w.clients.set c y⟩ c = y := fun l k y => by unfold clientAt; simp [hc]
  unfold lockM
  split
  · exact .inl ⟨hget _ _ _, rfl⟩
  · rename_i h0
    split
    · exact .inr (.inl ⟨hget _ _ _, rfl⟩)
    · exact .inr (.inr ⟨hget _ _ _, h0⟩)
theorem closeM_client {c : Nat} {x : MClient} (hc : c < w.clients.length) :
    (clientAt (closeM w c x).1 c = zeroClient) ∨ (clientAt (closeM w c x).1 c = { x with phase := 4, at_ := x.at_ + 1 } ∧ (closeM w c x).2 = 0) := by
  have hget : ∀ (l : List MRow) (k : Int) (y : MClient), clientAt ⟨l, k, w.clients.set c y⟩ c = y := fun l k y => by unfold clientAt; simp [hc]
  unfold closeM
  split
  · exact .inl (hget _ _ _)
  · by_cases h : x.at_ + 1 = x.writes.length
    · left; dsimp only; rw [if_pos h]; exact hget _ _ _
    · right; dsimp only; rw [if_neg h]; exact ⟨hget _ _ _, rfl⟩
theorem other_client {c : Nat} (h0 : doCode w a = 0) (hne : c ≠ a.c.toNat) : clientAt (doM w a).1 c = clientAt w c := by
  have hset : ∀ (l : List MRow) (k : Int) (y : MClient), clientAt ⟨l, k, w.clients.set a.c.toNat y⟩ c = clientAt w c := fun l k y => by
    unfold clientAt; dsimp only; rw [List.getElem?_set_ne (fun e => hne e.symm)]
  have hlock : ∀ x, clientAt (lockM w a.c.toNat x).1 c = clientAt w c := fun x => by
    unfold lockM; split
    · exact hset _ _ _
    · split <;> exact hset _ _ _
  unfold doM
  rw [if_pos h0]
  dsimp only
  unfold actM
  split
  · rfl
  split
  · exact hset _ _ _
  split
  · rfl
  split
  · unfold putM
    split
    · rfl
    split
    · rfl
    split
    · rfl
    · exact hset _ _ _
  split
  · unfold stepM
    split
    · rfl
    split
    · exact hset _ _ _
    split
    · exact hlock _
    split
    · exact hlock _
    split
    · exact hset _ _ _
    · show clientAt (closeM w a.c.toNat (clientAt w a.c.toNat)).1 c = _
      unfold closeM
      split <;> exact hset _ _ _
  split
  · exact hset _ _ _
  · rfl

theorem track_act (h0 : doCode w a = 0) (h : Like t (clientAt w a.c.toNat)) :
    Like (trackStep t a (doM w a).2.1) (clientAt (doM w a).1 a.c.toNat) ∧ trackDeal t a (doM w a).2.1 = dealsOf w a := by
  obtain ⟨hg, hk, hcl, hclock⟩ := doCode_ok h0
  have hcl' : a.c.toNat < w.clients.length := by omega
  have hB := hg.clients _ (clientAt_mem hcl')
  have hget : ∀ (l : List MRow) (k : Int) (y : MClient), clientAt ⟨l, k, w.clients.set a.c.toNat y⟩ a.c.toNat = y := fun l k y => by unfold clientAt; simp [hcl']
  have hph : (doM w a).2.1.phase = (clientAt (doM w a).1 a.c.toNat).phase := by unfold doM; rw [if_pos h0]
  obtain ⟨h1, h2, h3⟩ := h
  have hd : trackDeal t a (doM w a).2.1 = dealsOf w a := by
    unfold trackDeal dealsOf
    by_cases hc : a.kind = 4 ∧ (clientAt w a.c.toNat).phase = 3 ∧ (doM w a).2.1.code = 0
    · rw [if_pos hc, if_pos ⟨hc.2.2, hc.1, h1.trans hc.2.1⟩]
      obtain ⟨e1, e2⟩ := h2 (by rw [hc.2.1]; decide)
      have e3 := h3 (.inl hc.2.1)
      have htime : (doM w a).2.1.time = 0 := by
        unfold doM; rw [if_pos h0]
        dsimp only
        unfold actM
        rw [if_neg (by omega), if_neg (by omega), if_neg (by omega), if_neg (by omega), if_pos hc.1]
        dsimp only
        unfold stepM
        rw [if_neg (by omega), if_neg (by omega), if_neg (by omega), if_neg (by omega), if_neg (by omega)]
      have e4 : (trackTurn t a (doM w a).2.1).commit = t.commit := by
        unfold trackTurn
        rw [if_pos hc.2.2, if_neg (by omega), if_neg (by omega), if_neg (by omega)]
      rw [e4, e1, e2, e3]
    · rw [if_neg hc, if_neg (fun h => hc ⟨h.2.1, h1.symm.trans h.2.2, h.1⟩)]
  refine ⟨⟨hph, ?_, ?_⟩, hd⟩
  all_goals
    clear hd
    revert hph
    unfold trackStep
    generalize hx : clientAt w a.c.toNat = x at h1 h2 h3 hB
    unfold doM
    rw [if_pos h0]
    dsimp only
    rw [hx]
    unfold actM
    split
    · rename_i hst
      intro _
      dsimp only
      rw [hx]
      unfold trackTurn
      dsimp only
      rw [if_neg (by show ¬ (6 : Int) = 0; decide)]
      first | exact h2 | exact h3
    rename_i hst
    split
    · rename_i hk1
      intro _
      dsimp only
      rw [hget]
      unfold trackTurn
      dsimp only
      rw [if_pos (by rfl), if_pos hk1]
      first | exact fun _ => ⟨rfl, rfl⟩ | exact fun hp => by ((try dsimp only at hp); omega)
    rename_i hk1
    split
    · rename_i hk2
      intro _
      dsimp only
      rw [hx]
      rw [turn_other ⟨hk1, by omega, by omega⟩]
      first | exact h2 | exact h3
    rename_i hk2
    split
    · rename_i hk3
      have hp1 : x.phase = 1 := by omega
      intro _
      dsimp only
      unfold trackTurn putM
      dsimp only
      split
      · dsimp only; rw [hx, if_neg (by decide)]; first | exact h2 | exact h3
      split
      · dsimp only; rw [hx, if_neg (by decide)]; first | exact h2 | exact h3
      split
      · dsimp only; rw [hx, if_neg (by decide)]; first | exact h2 | exact h3
      · dsimp only
        unfold setC
        first | rw [hget, if_pos rfl, if_neg hk1, if_pos hk3] | rw [hget, if_pos rfl]
        dsimp only
        first | exact fun hp => ⟨(h2 hp).1, by rw [(h2 hp).2]⟩ | exact h3
    rename_i hk3
    split
    · rename_i hk4
      intro _
      dsimp only
      unfold stepM
      split
      · dsimp only; rw [hx, turn_idle hk1 hk3 rfl]; first | exact h2 | exact h3
      rename_i hp0
      have hb := busy_of hB hp0
      have hbp := hb.phase
      obtain ⟨s1, s2⟩ := h2 hp0
      split
      · dsimp only
        unfold setC
        rw [hget]
        first | exact fun hp => absurd rfl hp | exact fun hp => by (have e : zeroClient.phase = 0 := rfl; omega)
      split
      · rename_i hp1
        dsimp only
        rw [turn_idle hk1 hk3 rfl]
        rcases lockM_client (w := w) (c := a.c.toNat) (x := { x with phase := 2 }) hcl' with ⟨e, e'⟩ | ⟨e, e'⟩ | ⟨e, e'⟩
        · rw [e]; first | exact fun _ => ⟨s1, s2⟩ | exact fun hp => by ((try dsimp only at hp); omega)
        · rw [e]; first | exact fun _ => ⟨s1, s2⟩ | exact fun hp => by ((try dsimp only at hp); omega)
        · rw [e]; first | exact fun hp => absurd rfl hp | exact fun hp => by (have e : zeroClient.phase = 0 := rfl; omega)
      split
      · rename_i hp2
        dsimp only
        rw [turn_idle hk1 hk3 rfl]
        rcases lockM_client (w := w) (c := a.c.toNat) (x := x) hcl' with ⟨e, e'⟩ | ⟨e, e'⟩ | ⟨e, e'⟩
        · rw [e]; first | exact fun _ => ⟨s1, s2⟩ | exact fun hp => by ((try dsimp only at hp); omega)
        · rw [e]; first | exact fun _ => ⟨s1, s2⟩ | exact fun hp => by ((try dsimp only at hp); omega)
        · rw [e]; first | exact fun hp => absurd rfl hp | exact fun hp => by (have e : zeroClient.phase = 0 := rfl; omega)
      split
      · dsimp only
        have hcc := hg.clock.1
        unfold trackTurn
        dsimp only
        rw [hget, if_pos rfl, if_neg hk1, if_neg hk3, if_pos ⟨hk4, by omega⟩]
        first | exact fun _ => ⟨s1, s2⟩ | exact fun _ => rfl
      · dsimp only
        have h34 : x.phase = 3 ∨ x.phase = 4 := by omega
        have s3 := h3 h34
        rw [turn_idle hk1 hk3 rfl]
        rcases closeM_client (w := w) (c := a.c.toNat) (x := x) hcl' with e | ⟨e, e'⟩
        · rw [e]; first | exact fun hp => absurd rfl hp | exact fun hp => by (have e : zeroClient.phase = 0 := rfl; omega)
        · rw [e]
          first | exact fun _ => ⟨s1, s2⟩ | exact fun _ => s3
    rename_i hk4
    split
    · rename_i hk5
      intro _
      dsimp only
      unfold setC
      rw [hget]
      first | exact fun hp => absurd rfl hp | exact fun hp => by (have e : zeroClient.phase = 0 := rfl; omega)
    · rename_i hk5
      intro _
      dsimp only
      have e : ∀ l : List MRow, clientAt { w with rows := l } a.c.toNat = x := fun l => hx
      rw [e, turn_other ⟨hk1, hk3, hk4⟩]
      first | exact h2 | exact h3
end

/-! ### all acts -/
def tk (ts : List MTrack) (a : MAct) : MTrack := ts[a.c.toNat]?.getD zeroTrack
def tksTurn (ts : List MTrack) (a : MAct) (x : MAns) : List MTrack := ts.set a.c.toNat (trackStep (tk ts a) a x)
def dealsT : List MTrack → Nat → List MAct → List MAns → List (Deal × Nat)
  | ts, i, a :: l, x :: xs => (trackDeal (tk ts a) a x).map (fun d => (d, i)) ++ dealsT (tksTurn ts a x) (i + 1) l xs
  | _, _, _, _ => []
def seenT : List MTrack → List MAct → List MAns → List MTrack
  | ts, a :: l, x :: xs => tk ts a :: seenT (tksTurn ts a x) l xs
  | _, _, _ => []
structure Likes (ts : List MTrack) (w : MWorld) : Prop where
  len : ts.length = w.clients.length
  each : ∀ c, c < ts.length → Like (ts[c]?.getD zeroTrack) (clientAt w c)
section
variable {n : Nat}
theorem likes_step {w : MWorld} {a : MAct} {ts : List MTrack} (h0 : doCode w a = 0) (h : Likes ts w) : Likes (tksTurn ts a (doM w a).2.1) (stepW w a) ∧ trackDeal (tk ts a) a (doM w a).2.1 = dealsOf w a := by
  obtain ⟨_, _, hcl, _⟩ := doCode_ok h0
  have hcl' : a.c.toNat < ts.length := by have := h.len; omega
  obtain ⟨h1, h2⟩ := track_act h0 (h.each _ hcl')
  refine ⟨⟨?_, fun c hc => ?_⟩, h2⟩
  · unfold tksTurn stepW
    rw [List.length_set, h.len, (doM_facts h0).2.1]
  · unfold tksTurn at hc ⊢
    rw [List.length_set] at hc
    by_cases e : c = a.c.toNat
    · subst e
      rw [List.getElem?_set_self hcl']
      exact h1
    · rw [List.getElem?_set_ne (fun e' => e e'.symm)]
      unfold stepW
      rw [other_client h0 e]
      exact h.each c hc
theorem likes_start : Likes (List.replicate n zeroTrack) (startW n) := by
  refine ⟨by simp [startW], fun c hc => ?_⟩
  have hc' : c < n := by simpa using hc
  have e1 : (List.replicate n zeroTrack)[c]?.getD zeroTrack = zeroTrack := by rw [List.getElem?_replicate, if_pos hc']; rfl
  have e2 : clientAt (startW n) c = zeroClient := by unfold clientAt startW; rw [List.getElem?_replicate, if_pos hc']; rfl
  rw [e1, e2]
  exact ⟨rfl, fun h => absurd rfl h, fun h => by rcases h with h | h <;> exact absurd h (by decide)⟩
theorem deals_run : ∀ {l : List MAct} {w : MWorld} {ts : List MTrack} {i m : Nat}, Fit n (l.length + m) w → (∀ a ∈ l, ActOk n a) → Likes ts w →
    (dealsT ts i l (ansFrom w l)).map Prod.fst = dealsFrom w l ∧ (∀ d ∈ dealsT ts i l (ansFrom w l), i ≤ d.2) ∧ (seenT ts l (ansFrom w l)).length = l.length ∧
    ∀ j a, l[j]? = some a → ((dealsT ts i l (ansFrom w l)).filter (fun d => decide (d.2 < i + j))).map Prod.fst = dealsFrom w (l.take j) ∧
      ∃ t, (seenT ts l (ansFrom w l))[j]? = some t ∧ Like t (clientAt ((l.take j).foldl stepW w) a.c.toNat)
  | [], w, ts, i, m, _, _, _ => ⟨rfl, (fun d hd => by cases hd), rfl, (fun j a h => by simp at h)⟩
  | a :: l, w, ts, i, m, hf, ha, h => by
    have hf' : Fit n (l.length + m + 1) w := by rw [List.length_cons] at hf; rw [show l.length + m + 1 = l.length + 1 + m by omega]; exact hf
    have ha0 := ha a List.mem_cons_self
    have h0 := fit_code hf' ha0
    obtain ⟨h1, h2⟩ := likes_step h0 h
    obtain ⟨_, _, hcl, _⟩ := doCode_ok h0
    have hcl' : a.c.toNat < ts.length := by have := h.len; omega
    obtain ⟨g1, g2, g3, g4⟩ := deals_run (l := l) (i := i + 1) (fit_step hf' ha0) (fun b hb => ha b (List.mem_cons_of_mem _ hb)) h1
    have hdef : dealsT ts i (a :: l) (ansFrom w (a :: l)) = (dealsOf w a).map (fun d => (d, i)) ++ dealsT (tksTurn ts a (doM w a).2.1) (i + 1) l (ansFrom (stepW w a) l) := by
      rw [← h2]; rfl
    have hfst : ((dealsOf w a).map (fun d => (d, i))).map Prod.fst = dealsOf w a := by rw [List.map_map]; exact List.map_id _
    refine ⟨?_, fun d hd => ?_, ?_, fun j b hb => ?_⟩
    · rw [hdef, List.map_append, hfst, g1]; rfl
    · rw [hdef] at hd
      rcases List.mem_append.1 hd with hd | hd
      · obtain ⟨_, _, rfl⟩ := List.mem_map.1 hd; exact Nat.le_refl _
      · have := g2 d hd; omega
    · show (seenT _ l _).length + 1 = l.length + 1
      rw [g3]
    · rw [hdef, List.filter_append]
      cases j with
      | zero =>
        have e : a = b := by simpa using hb
        subst e
        refine ⟨?_, tk ts a, rfl, h.each _ hcl'⟩
        have e1 : ((dealsOf w a).map (fun d => (d, i))).filter (fun d => decide (d.2 < i + 0)) = [] := List.filter_eq_nil_iff.2 fun d hd => by
          obtain ⟨_, _, rfl⟩ := List.mem_map.1 hd; simp
        have e2 : (dealsT (tksTurn ts a (doM w a).2.1) (i + 1) l (ansFrom (stepW w a) l)).filter (fun d => decide (d.2 < i + 0)) = [] := List.filter_eq_nil_iff.2 fun d hd => by
          have := g2 d hd; simp; omega
        rw [e1, e2]
        rfl
      | succ j =>
        have hb' : l[j]? = some b := by simpa using hb
        obtain ⟨k1, t, k2, k3⟩ := g4 j b hb'
        have e1 : ((dealsOf w a).map (fun d => (d, i))).filter (fun d => decide (d.2 < i + (j + 1))) = (dealsOf w a).map (fun d => (d, i)) := List.filter_eq_self.2 fun d hd => by
          obtain ⟨_, _, rfl⟩ := List.mem_map.1 hd; simp
        refine ⟨?_, t, k2, k3⟩
        rw [e1, List.map_append, hfst, show i + (j + 1) = i + 1 + j by omega, k1]
        rfl

/-! ### what the deals tell of a key -/
def betterT (k : ByteArray) (t : Int) (act : Nat) (b : Deal) (d : Deal × Nat) : Deal := if (writeOf d.1.writes k).isSome = true ∧ d.2 < act ∧ d.1.commit ≤ t ∧ b.commit < d.1.commit then d.1 else b
def bestT (D : List (Deal × Nat)) (k : ByteArray) (t : Int) (act : Nat) : Deal := D.foldl (betterT k t act) zeroDeal
def valueT (D : List (Deal × Nat)) (k : ByteArray) (t : Int) (act : Nat) : ByteArray × Bool := (((writeOf (bestT D k t act).writes k).map (·.value)).getD ⟨#[]⟩, decide (0 < (bestT D k t act).commit))
theorem valueT_eq (D : List (Deal × Nat)) (k : ByteArray) (t : Int) (act : Nat) : valueT D k t act = valueD ((D.filter fun d => decide (d.2 < act)).map Prod.fst) k t := by
  have e : ∀ (l : List (Deal × Nat)) (b : Deal), l.foldl (betterT k t act) b = ((l.filter fun d => decide (d.2 < act)).map Prod.fst).foldl (bestDeal k t) b := by
    intro l
    induction l with
    | nil => intro b; rfl
    | cons d l ih =>
      intro b
      rw [List.foldl_cons, ih]
      by_cases hd : d.2 < act
      · rw [List.filter_cons_of_pos (by simpa using hd), List.map_cons, List.foldl_cons]
        congr 1
        unfold betterT bestDeal
        simp [hd]
      · rw [List.filter_cons_of_neg (by simpa using hd)]
        congr 1
        unfold betterT
        simp [hd]
  unfold valueT valueD bestT bestOf
  rw [e]

/-- TopSnapshot. -/
theorem snapshot_plain {l : List MAct} (hn : n ≤ 5) (hl : l.length ≤ 400) (ha : ∀ a ∈ l, ActOk n a) {j : Nat} {a : MAct} (hj : l[j]? = some a) (hk : a.kind = 2) :
    ∃ x t, (ansFrom (startW n) l)[j]? = some x ∧ (seenT (List.replicate n zeroTrack) l (ansFrom (startW n) l))[j]? = some t ∧
      (x.code = 0 → (x.value, x.is) = match writeOf t.writes a.key with | some y => (y.value, true) | none => valueT (dealsT (List.replicate n zeroTrack) 0 l (ansFrom (startW n) l)) a.key t.start j) := by
  obtain ⟨_, _, _, h4⟩ := deals_run (i := 0) (m := 0) (fit_start hn l.length hl) ha likes_start
  obtain ⟨g1, t, g2, g3⟩ := h4 j a hj
  have hjl : j < l.length := (List.getElem?_eq_some_iff.1 hj).1
  have ham : a ∈ l := List.mem_of_getElem? hj
  have hsplit : l = l.take j ++ (a :: l.drop (j + 1)) := by
    have e : l[j] = a := by rw [List.getElem?_eq_getElem hjl] at hj; injection hj
    rw [← e, List.getElem_cons_drop, List.take_append_drop]
  have hta : ∀ b ∈ l.take j, ActOk n b := fun b hb => ha b (List.mem_of_mem_take hb)
  have htl : (l.take j).length = j := by rw [List.length_take]; omega
  have hfit : Fit n 1 ((l.take j).foldl stepW (startW n)) := fit_fold (m := 1) (fit_start hn _ (by omega)) hta
  have hdrop : (ansFrom (startW n) l)[j]? = some (doM ((l.take j).foldl stepW (startW n)) a).2.1 := by
    conv => lhs; rw [hsplit, ansFrom_append]
    rw [List.getElem?_append_right (by rw [length_ansFrom]; omega), length_ansFrom, htl, Nat.sub_self]
    rfl
  refine ⟨_, t, hdrop, g2, fun hc => ?_⟩
  obtain ⟨P, hw⟩ := winv_run (m := 1) (fit_start hn _ (by omega)) hta (start_winv (n := n) (fun _ => ⟨#[]⟩))
  rw [List.nil_append] at hw
  rw [valueT_eq]
  have hz : (0 : Nat) + j = j := by omega
  rw [hz] at g1
  rw [g1]
  generalize (l.take j).foldl stepW (startW n) = w at hw hc hfit g3
  have h0 := fit_code hfit (ha a ham)
  obtain ⟨hg, _, hcl, _⟩ := doCode_ok h0
  have hph : (clientAt w a.c.toNat).phase = 1 := by
    by_cases e : (clientAt w a.c.toNat).phase = 1
    · exact e
    · exfalso
      revert hc
      unfold doM
      rw [if_pos h0]
      dsimp only
      unfold actM
      rw [if_pos (.inr (.inl ⟨.inl hk, e⟩))]
      exact fun h => absurd (show (6 : Int) = 0 from h) (by decide)
  obtain ⟨s1, s2⟩ := g3.same (by rw [hph]; decide)
  have hB := hg.clients _ (clientAt_mem (w := w) (c := a.c.toNat) (by omega))
  have hbs := (busy_of hB (by rw [hph]; decide)).start
  have ht : timeB t.start = true := by rw [s1]; exact timeB_of hbs.1 (by have := hg.clock.2; omega)
  have hans : (doM w a).2.1 = { ({ zeroAns with code := (getM w (clientAt w a.c.toNat) a.key).2.2, value := (getM w (clientAt w a.c.toNat) a.key).1, is := (getM w (clientAt w a.c.toNat) a.key).2.1 } : MAns) with phase := (clientAt w a.c.toNat).phase } := by
    have e : actM w a a.c.toNat (clientAt w a.c.toNat) = (w, { zeroAns with code := (getM w (clientAt w a.c.toNat) a.key).2.2, value := (getM w (clientAt w a.c.toNat) a.key).1, is := (getM w (clientAt w a.c.toNat) a.key).2.1 }) := by
      simp [actM, hk, hph]
    simp only [doM, if_pos h0, e]
  rw [hans] at hc ⊢
  dsimp only at hc ⊢
  rw [s2]
  unfold getM at hc ⊢
  by_cases hkb : keyB a.key = false
  · rw [if_pos hkb] at hc; exact absurd hc (by decide)
  rw [if_neg hkb] at hc ⊢
  cases hwr : writeOf (clientAt w a.c.toNat).writes a.key with
  | some y => rfl
  | none =>
    rw [hwr] at hc
    dsimp only at hc ⊢
    rw [← s1] at hc ⊢
    cases hr : rowAt w.rows a.key with
    | none =>
      have er : rv w.rows a.key = emptyRow a.key := by unfold rv; rw [hr]; rfl
      have hv := read_value (k := a.key) (t := t.start) hg.clock.1 hg.rows hw.inv (fun s p v hl => by
        have := hl.2.1; rw [er] at this; exact absurd this.symm hl.1)
      rw [er] at hv
      rw [← hv]; rfl
    | some r =>
      have er : rv w.rows a.key = r := by unfold rv; rw [hr]; rfl
      have hrb : rowB r = true := rowB_iff.2 (hg.rows.each r (rowAt_mem hr).1).1
      rw [hr] at hc
      dsimp only at hc ⊢
      unfold readF at hc ⊢
      rw [if_pos hrb, if_pos ht] at hc ⊢
      by_cases hlk : r.ls ≠ 0 ∧ r.ls ≤ t.start
      · rw [if_pos hlk] at hc; exact absurd hc (by decide)
      rw [if_neg hlk]
      have hv := read_value (k := a.key) (t := t.start) hg.clock.1 hg.rows hw.inv (fun s p v hl => by
        have h1 := hl.2.1; rw [er] at h1
        have h2 := hl.1
        by_cases h3 : t.start < s
        · exact h3
        · exact absurd ⟨by rw [h1]; exact h2, by rw [h1]; omega⟩ hlk)
      rw [er] at hv
      exact hv
/-- TopApart. -/
theorem apart_plain {l : List MAct} (hn : n ≤ 5) (hl : l.length ≤ 400) (ha : ∀ a ∈ l, ActOk n a) :
    (dealsT (List.replicate n zeroTrack) 0 l (ansFrom (startW n) l)).Pairwise fun b a => ∀ k, (writeOf a.1.writes k).isSome = true → (writeOf b.1.writes k).isSome = true → ¬ (b.1.start < a.1.commit ∧ a.1.start < b.1.commit) := by
  obtain ⟨h1, _⟩ := deals_run (i := 0) (m := 0) (fit_start hn l.length hl) ha likes_start
  obtain ⟨P, hw⟩ := winv_run (m := 0) (fit_start hn l.length hl) ha (start_winv (n := n) (fun _ => ⟨#[]⟩))
  rw [List.nil_append, ← h1] at hw
  have hfit : Fit n 0 (l.foldl stepW (startW n)) := fit_fold (m := 0) (fit_start hn l.length hl) ha
  have hp := List.pairwise_map.1 hw.inv.apart
  refine List.Pairwise.imp_of_mem (fun {b a} hb ha hne k hka hkb => ?_) hp
  exact apart_deals hfit.good.clock.1 hfit.good.rows hw.inv (List.mem_map_of_mem ha) (List.mem_map_of_mem hb) hne.symm hka hkb
end
end Go.Proofs.YtniomgngiiiklabDoor

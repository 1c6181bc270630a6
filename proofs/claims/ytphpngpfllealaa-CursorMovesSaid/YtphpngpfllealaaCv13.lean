/- A calculus for calls of the program: canonical values and heaps, and what each operation, loop and call does to them; no condition on the program. -/
import Derived.Test.YtphpngpfllealaaCv12
namespace Go.Cv
open Go.RowKit

theorem hget_pad (h : Heap) (n i : Nat) : hget (h ++ List.replicate n none) i = hget h i := by
  unfold hget
  rcases Nat.lt_or_ge i h.length with hi | hi
  · rw [List.getElem?_append_left hi]
  · rw [List.getElem?_append_right hi, List.getElem?_eq_none (l := h) hi, List.getElem?_replicate]
    split <;> rfl

theorem Rel.pad {φ : Phi} {μ : Mu} {B : Nat} {h : Heap} {w w' : World} (r : Rel φ μ B h w) (hw : w'.heap = w.heap) (n : Nat) : Rel φ μ B (h ++ List.replicate n none) w' := by
  refine ⟨fun b o v hc => ?_, fun b n hn => by rw [hw]; exact r.size b n hn, r.inj, fun i b x hi => ?_, fun i k hk => ?_⟩
  · rw [← r.cell b o v hc]; simp only [World.cell?, hw]
  · have := r.dom i b x hi
    rw [hw]
    exact ⟨by simp; omega, this.2⟩
  · rw [hget_pad] at hk
    obtain ⟨b, x, h1, h2⟩ := r.blk i k hk
    exact ⟨b, x, h1, h2.mono φ.le_refl (Mu.le_refl _) (by rw [hw]) (fun _ _ h => h)⟩

theorem Rel.trim {φ : Phi} {μ : Mu} {B : Nat} {h : Heap} {w : World} (r : Rel φ μ B h w) {m : Nat} (hm : m ≤ h.length) (hn : ∀ i, m ≤ i → μ i = none) : Rel φ μ B (h.take m) w := by
  refine ⟨r.cell, r.size, r.inj, fun i b x hi => ?_, fun i k hk => ?_⟩
  · have : i < m := by
      rcases Nat.lt_or_ge i m with h' | h'
      · exact h'
      · rw [hn i h'] at hi; cases hi
    exact ⟨by simp; omega, (r.dom i b x hi).2⟩
  · have him : i < m := by
      rcases Nat.lt_or_ge i m with h' | h'
      · exact h'
      · unfold hget at hk; rw [List.getElem?_eq_none (by simp; omega)] at hk; cases hk
    unfold hget at hk
    rw [List.getElem?_take_of_lt him] at hk
    exact r.blk i k hk

/-- How many places are left where the last are none. -/
def trimN : List (Option Blk) → Nat
  | [] => 0
  | x :: xs => (match trimN xs with | 0 => (match x with | none => 0 | some _ => 1) | n + 1 => n + 2)

theorem trimN_le : ∀ (l : List (Option Blk)), trimN l ≤ l.length
  | [] => Nat.le_refl _
  | x :: xs => by
    have := trimN_le xs
    unfold trimN
    split
    · split <;> simp
    · simp; omega

theorem trimN_none : ∀ (l : List (Option Blk)) (i : Nat), trimN l ≤ i → (l[i]?).join = none
  | [], i, _ => by simp
  | x :: xs, i, hi => by
    unfold trimN at hi
    split at hi
    · rename_i h0
      have := trimN_none xs
      cases i with
      | zero =>
        split at hi
        · simp
        · omega
      | succ i => simpa using this i (by omega)
    · rename_i n hn
      cases i with
      | zero => omega
      | succ i => simpa using trimN_none xs i (by omega)

def trimAt (n0 : Nat) (h : Heap) : Heap := h.take (n0 + trimN (h.drop n0))

section
variable {P : Program} {T : Nat → Option TI} {ops : Array Oper}

theorem guardB_wanted {φ : Phi} {μ : Mu} {env : List V} {tmps : Array Value} (he : EnvR φ μ env tmps) {o : Oper} {b : Bool} (h : guardB ops env o.guard = some b) : Region.wanted o (yielded ops tmps) = b := by
  unfold guardB at h
  split at h
  · rename_i hg
    simp only [Option.some.injEq] at h
    subst h
    simp [Region.wanted, hg]
  · rename_i j want hg
    split at h
    · rename_i d hd
      rw [Option.bind_eq_some_iff] at hd
      obtain ⟨oj, h1, h2⟩ := hd
      split at h
      · rename_i b' hb
        simp only [Option.some.injEq] at h
        subst h
        have hy := yielded_bool he h1 h2 hb
        simp [Region.wanted, hg, hy]
      · rename_i hb
        simp only [Option.some.injEq] at h
        subst h
        have hy := yielded_none he h1 h2 hb
        simp [Region.wanted, hg, hy]
      · cases h
    · cases h

/-- What holds between the steps. -/
structure DSt (φ0 : Phi) (μ0 : Mu) (B : Nat) (w0 : World) (ds : List Deferred) (n0 sz : Nat) (listed : Array Bool) (D : Ds) (φ : Phi) (μ : Mu) (a : Act) (w : World) : Prop where
  env : EnvR φ μ D.1 a.tmps
  rel : Rel φ μ B D.2 w
  ext : Ext φ0 μ0 w0 φ μ
  fr : Fr μ0 w0 w
  dfr : a.defers = ds
  len : D.2.length = n0 + sz
  lst : listed.size = sz
  new : ∀ j, j < sz → μ (n0 + j) ≠ none → listed.getD j true = true ∧ hget D.2 (n0 + j) ≠ none

theorem anyD_ok (hT : TOk P T) {φ0 : Phi} {μ0 : Mu} {B : Nat} {w0 : World} {ds : List Deferred} {n0 : Nat} (hB : B ≤ w0.heap.size) {tr : Nat → Tr} {Q : Ds → Prop} {R : Exit → Act → World → Prop}
    (hQ : ∀ D φ μ a w listed, Q D → DSt φ0 μ0 B w0 ds n0 ops.size listed D φ μ a w → R .normal a w) :
    ∀ (fuel : Nat) (listed : Array Bool) (D : Ds) (φ : Phi) (μ : Mu) (a : Act) (w : World), DSt φ0 μ0 B w0 ds n0 ops.size listed D φ μ a w → anyD P T ops n0 tr Q fuel listed D → wpAny P .any ops R fuel listed a w := by
  intro fuel
  induction fuel with
  | zero => intro listed D φ μ a w hs h; exact ⟨h.1, hQ D φ μ a w listed h.2 hs⟩
  | succ fuel ih =>
    intro listed D φ μ a w hs h
    refine ⟨fun hr => hQ D φ μ a w listed (h.1 hr) hs, fun i hi => ?_⟩
    obtain ⟨hun, o, ho, _⟩ := mem_ready.1 hi
    obtain ⟨hloc, hnext⟩ := h.2 i hi o ho
    have hisz := (Array.getElem?_eq_some_iff.1 ho).1
    unfold wpOp
    simp only [ho]
    rcases hloc with ⟨hg, hop⟩ | ⟨hg, ht⟩
    · rw [if_pos (guardB_wanted hs.env hg)]
      left
      have hfree : μ (n0 + i) = none := by
        cases hm : μ (n0 + i) with
        | none => rfl
        | some x =>
          have := (hs.new i hisz (by rw [hm]; simp)).1
          rw [hun] at this; cases this
      have := opQ_ok hT (Nat.le_trans hB hs.fr.size) hs.rel (fun x => hs.env.eval x) R o (by rw [hs.len]; omega) hfree hop
      refine Oper.wp_mono ?_ this
      rintro a' w' ⟨cv, rfl, φ', μ', hv, hr', hx, hf, hmu⟩
      refine ih _ _ φ' μ' _ w' ⟨?_, hr', hs.ext.trans hs.fr.size hx, hs.fr.trans hs.ext hf, ?_, ?_, ?_, ?_⟩ hnext
      · exact (hs.env.mono hx.phi hx.mu).put hv o.dst
      · rw [← hs.dfr]; cases o.dst <;> rfl
      · show (applyW D.2 (tr i).wr).length = _
        rw [applyW_length, hs.len]
      · simpa using hs.lst
      · intro j hj hmj
        by_cases hji : j = i
        · subst hji
          refine ⟨by simp [hs.lst, hj], ?_⟩
          have hne : μ' (n0 + j) ≠ μ (n0 + j) := by rw [hfree]; exact hmj
          obtain ⟨_, k, hk⟩ := hmu _ hne
          exact applyW_mem _ _ _ k hk (by rw [hs.len]; omega)
        · have : μ' (n0 + j) = μ (n0 + j) := by
            by_cases he : μ' (n0 + j) = μ (n0 + j)
            · exact he
            · have := (hmu _ he).1; omega
          rw [this] at hmj
          obtain ⟨g1, g2⟩ := hs.new j hj hmj
          exact ⟨by rw [getD_set_ne true (Ne.symm hji)]; exact g1, applyW_some _ _ _ g2⟩
    · have hw := guardB_wanted hs.env hg
      rw [hw, if_neg (by simp)]
      rw [ht] at hnext
      refine ih _ (Dapp o ⟨.tup [], [], []⟩ D) φ μ _ w ⟨hs.env.put (rv_skip _ _) o.dst, hs.rel, hs.ext, hs.fr, ?_, hs.len, by simpa using hs.lst, fun j hj hmj => ?_⟩ hnext
      · rw [← hs.dfr]; cases o.dst <;> rfl
      · obtain ⟨g1, g2⟩ := hs.new j hj hmj
        refine ⟨?_, g2⟩
        by_cases hji : i = j
        · subst hji; simp [hs.lst, hj]
        · rw [getD_set_ne true hji]; exact g1
end

/-! ### In the order of the text, by reckoning -/
def forceW {β : Type} : List (Nat × Blk) → (List (Nat × Blk) → β) → β
  | [], k => k []
  | x :: xs, k => forceW xs fun ys => k (x :: ys)
theorem forceW_eq {β : Type} : ∀ (l : List (Nat × Blk)) (k : List (Nat × Blk) → β), forceW l k = k l
  | [], _ => rfl
  | x :: xs, k => by rw [forceW, forceW_eq xs]

def stepD (P : Program) (T : Nat → Option TI) (all : List Oper) (o : Oper) (nid : Nat) (env : List V) (h : Heap) (trs : List Tr) (J : List V → Heap → List Tr → Prop) : Prop :=
  guardN all env o.guard
    (fun env => opQ P T (evE env) h nid (fun v wr acc => v.force fun v => forceW wr fun wr => forceL (putE env o.dst v) fun env' => forceH (applyW h wr) fun h' => J env' h' (⟨v, wr, acc⟩ :: trs)) o.op)
    (fun env => forceL (putE env o.dst (.tup [])) fun env' => J env' h (⟨.tup [], [], []⟩ :: trs))

def drawRun (P : Program) (T : Nat → Option TI) (all l : List Oper) : Nat → List V → Heap → List Tr → (List Tr → List V → Heap → Prop) → Prop :=
  List.rec (motive := fun _ => Nat → List V → Heap → List Tr → (List Tr → List V → Heap → Prop) → Prop) (fun _ env h trs K => K trs env h)
    (fun o _ ih nid env h trs K => stepD P T all o nid env h trs fun env' h' trs' => natL (nid + 1) fun nid' => ih nid' env' h' trs' K) l
theorem drawRun_cons {P : Program} {T : Nat → Option TI} {all : List Oper} {o : Oper} {rest : List Oper} {nid : Nat} {env : List V} {h : Heap} {trs : List Tr} {K : List Tr → List V → Heap → Prop} :
    drawRun P T all (o :: rest) nid env h trs K = stepD P T all o nid env h trs fun env' h' trs' => drawRun P T all rest (nid + 1) env' h' trs' K := by
  show (stepD P T all o nid env h trs fun env' h' trs' => natL (nid + 1) fun nid' => drawRun P T all rest nid' env' h' trs' K) = _
  simp only [natL_eq]

/-- Those that each waits for, at one remove or more: bits of a number. -/
def clOf (after : List Edge) (cls : List Nat) : Nat :=
  (after.filter (Region.binds .any)).foldl (fun m e => Nat.lor (Nat.lor m (Nat.shiftLeft 1 e.on)) (cls.getD e.on 0)) 0
def clList : List Oper → List Nat → List Nat
  | [], cls => cls
  | o :: rest, cls => clList rest (cls ++ [clOf o.after.toList cls])

def chkAfter (cls : List Nat) : List Oper → Nat → Bool
  | [], _ => true
  | o :: rest, j =>
    (o.after.toList.all fun e => !Region.binds .any e || Nat.blt e.on j) &&
    Nat.beq (cls.getD j 0) (clOf o.after.toList cls) &&
    chkAfter cls rest (j + 1)

def chkRow (ops : Array Oper) (cl : Nat) (y : Oper) (t : Tr) : List Oper → List Tr → Nat → Bool
  | x :: xs, s :: ss, i => (cl.testBit i || indep ops x s y t) && chkRow ops cl y t xs ss (i + 1)
  | _, _, _ => true
def chkPairs (ops : Array Oper) (cls : List Nat) : List Oper → List Tr → List Oper → List Tr → Nat → Bool
  | xs, ss, y :: ys, t :: ts, j => chkRow ops (cls.getD j 0) y t xs ss 0 && chkPairs ops cls (xs ++ [y]) (ss ++ [t]) ys ts (j + 1)
  | _, _, _, _, _ => true

def drawChk (all : List Oper) (trs : List Tr) : Bool :=
  forceL (clList all []) fun cls => chkAfter cls all 0 && chkPairs all.toArray cls [] [] all trs 0

def bitsOf (m : Nat) : List Nat := (List.range (m.log2 + 1)).filter fun i => m.testBit i
theorem mem_bitsOf {m i : Nat} : i ∈ bitsOf m ↔ m.testBit i = true := by
  unfold bitsOf
  rw [List.mem_filter, List.mem_range]
  refine ⟨fun h => h.2, fun h => ⟨?_, h⟩⟩
  rcases Nat.lt_or_ge i (m.log2 + 1) with h' | h'
  · exact h'
  · have : m < 2 ^ i := Nat.lt_of_lt_of_le Nat.lt_log2_self (Nat.pow_le_pow_right (by omega) h')
    rw [Nat.testBit_lt_two_pow this] at h
    cases h

theorem clOf_fold (cls : List Nat) (i : Nat) : ∀ (l : List Edge) (m : Nat), (l.foldl (fun m e => Nat.lor (Nat.lor m (Nat.shiftLeft 1 e.on)) (cls.getD e.on 0)) m).testBit i = true → m.testBit i = true ∨ ∃ e ∈ l, e.on = i ∨ (cls.getD e.on 0).testBit i = true
  | [], m, h => .inl h
  | e :: l, m, h => by
    rcases clOf_fold cls i l _ h with h1 | ⟨e', he, h2⟩
    · change ((m ||| (1 <<< e.on)) ||| cls.getD e.on 0).testBit i = true at h1
      rw [Nat.testBit_or, Nat.testBit_or, Bool.or_eq_true, Bool.or_eq_true] at h1
      rcases h1 with (h1 | h1) | h1
      · exact .inl h1
      · refine .inr ⟨e, by simp, .inl ?_⟩
        rw [Nat.one_shiftLeft, Nat.testBit_two_pow] at h1
        simpa using h1
      · exact .inr ⟨e, by simp, .inr h1⟩
    · exact .inr ⟨e', by simp [he], h2⟩

theorem chkAfter_spec {cls : List Nat} : ∀ (l : List Oper) (j0 : Nat), chkAfter cls l j0 = true → ∀ (m : Nat) (o : Oper), l[m]? = some o →
    (∀ e ∈ o.after, Region.binds .any e = true → e.on < j0 + m) ∧ (∀ i ∈ bitsOf (cls.getD (j0 + m) 0), ∃ e ∈ o.after, Region.binds .any e = true ∧ e.on < j0 + m ∧ (e.on = i ∨ i ∈ bitsOf (cls.getD e.on 0)))
  | [], _, _, m, o, h => by simp at h
  | x :: xs, j0, hc, m, o, h => by
    simp only [chkAfter, Bool.and_eq_true, List.all_eq_true, Bool.or_eq_true, Bool.not_eq_true', Nat.blt_eq, Array.mem_toList_iff] at hc
    obtain ⟨⟨h1, h2⟩, h3⟩ := hc
    have h2 : cls.getD j0 0 = clOf x.after.toList cls := Nat.eq_of_beq_eq_true h2
    cases m with
    | zero =>
      simp only [List.getElem?_cons_zero, Option.some.injEq] at h
      subst h
      have hlt : ∀ e ∈ x.after, Region.binds .any e = true → e.on < j0 + 0 := fun e he hb => by
        rcases h1 e he with h | h
        · rw [hb] at h; cases h
        · simpa using h
      refine ⟨hlt, fun i hi => ?_⟩
      rw [Nat.add_zero, mem_bitsOf, h2] at hi
      rcases clOf_fold cls i _ _ hi with h | ⟨e, he, ho⟩
      · simp at h
      · rw [List.mem_filter] at he
        have he1 : e ∈ x.after := by simpa using he.1
        exact ⟨e, he1, he.2, hlt e he1 he.2, ho.imp id fun h => mem_bitsOf.2 h⟩
    | succ m =>
      have := chkAfter_spec xs (j0 + 1) h3 m o (by simpa using h)
      rwa [Nat.add_assoc, Nat.add_comm 1 m] at this

theorem chkRow_spec {ops : Array Oper} {cl : Nat} {y : Oper} {t : Tr} : ∀ (xs : List Oper) (ss : List Tr) (i0 : Nat), chkRow ops cl y t xs ss i0 = true → ∀ (m : Nat) (x : Oper) (s : Tr), xs[m]? = some x → ss[m]? = some s → i0 + m ∉ bitsOf cl → indep ops x s y t = true
  | [], _, _, _, m, x, s, h, _, _ => by simp at h
  | _ :: _, [], _, _, m, x, s, _, h, _ => by simp at h
  | x0 :: xs, s0 :: ss, i0, hc, m, x, s, hx, hs, hn => by
    simp only [chkRow, Bool.and_eq_true, Bool.or_eq_true] at hc
    cases m with
    | zero =>
      simp at hx hs
      subst hx; subst hs
      rcases hc.1 with h | h
      · exact absurd (mem_bitsOf.2 h) hn
      · exact h
    | succ m => exact chkRow_spec xs ss (i0 + 1) hc.2 m x s (by simpa using hx) (by simpa using hs) (by rwa [Nat.add_assoc, Nat.add_comm 1 m])

theorem chkPairs_spec {ops : Array Oper} {cls : List Nat} : ∀ (ys : List Oper) (ts : List Tr) (xs : List Oper) (ss : List Tr), xs.length = ss.length → chkPairs ops cls xs ss ys ts xs.length = true →
    ∀ (m : Nat) (y : Oper) (t : Tr), ys[m]? = some y → ts[m]? = some t → ∀ (i : Nat) (x : Oper) (s : Tr), i < xs.length + m → (xs ++ ys)[i]? = some x → (ss ++ ts)[i]? = some s → i ∉ bitsOf (cls.getD (xs.length + m) 0) → indep ops x s y t = true
  | [], _, _, _, _, _, m, y, t, h, _ => by simp at h
  | _ :: _, [], _, _, _, _, m, y, t, _, h => by simp at h
  | y0 :: ys, t0 :: ts, xs, ss, hl, hc, m, y, t, hy, ht => by
    simp only [chkPairs, Bool.and_eq_true] at hc
    intro i x s hi hx hs hn
    cases m with
    | zero =>
      simp at hy ht
      subst hy; subst ht
      have hi' : i < xs.length := by omega
      rw [List.getElem?_append_left hi'] at hx
      rw [List.getElem?_append_left (by omega)] at hs
      exact chkRow_spec xs ss 0 hc.1 i x s hx hs (by rw [Nat.zero_add]; exact hn)
    | succ m =>
      have e1 : (xs ++ [y0]).length = xs.length + 1 := by simp
      have := chkPairs_spec ys ts (xs ++ [y0]) (ss ++ [t0]) (by simp [hl]) (by rw [e1]; exact hc.2) m y t (by simpa using hy) (by simpa using ht) i x s (by rw [e1]; omega) (by simpa using hx) (by simpa using hs) (by rw [e1, Nat.add_assoc, Nat.add_comm 1 m]; exact hn)
      exact this

theorem drawRun_ex {P : Program} {T : Nat → Option TI} {all : List Oper} {n0 : Nat} : ∀ (l : List Oper) (k : Nat) (env : List V) (h : Heap) (trs : List Tr) (K : List Tr → List V → Heap → Prop), drawRun P T all l (n0 + k) env h trs K →
    ∃ (trs2 : List Tr) (env' : List V) (h' : Heap), trs2.length = l.length ∧ K (trs2.reverse ++ trs) env' h' ∧ ∀ tr : Nat → Tr, (∀ m, m < l.length → tr (k + m) = trs2.getD m default) → LexD P T all.toArray n0 tr (fun D => D = (env', h')) l k (env, h)
  | [], k, env, h, trs, K, hk => ⟨[], env, h, rfl, hk, fun tr _ => rfl⟩
  | o :: rest, k, env, h, trs, K, hk => by
    have hrun : guardB all.toArray env o.guard = some true → (opQ P T (evE env) h (n0 + k) (fun v wr acc => v.force fun v => forceW wr fun wr => forceL (putE env o.dst v) fun env' => forceH (applyW h wr) fun h' => drawRun P T all rest (n0 + k + 1) env' h' (⟨v, wr, acc⟩ :: trs) K) o.op) →
        ∃ (trs2 : List Tr) (env' : List V) (h' : Heap), trs2.length = (o :: rest).length ∧ K (trs2.reverse ++ trs) env' h' ∧ ∀ tr : Nat → Tr, (∀ m, m < (o :: rest).length → tr (k + m) = trs2.getD m default) → LexD P T all.toArray n0 tr (fun D => D = (env', h')) (o :: rest) k (env, h) := fun hg ho => by
      obtain ⟨v, wr, acc, hK, hop⟩ := opQ_ex o.op ho
      simp only [V.force_eq, forceW_eq, forceL_eq, forceH_eq] at hK
      obtain ⟨trs2, env', h', h1, h2, h3⟩ := drawRun_ex rest (k + 1) _ _ _ K hK
      refine ⟨⟨v, wr, acc⟩ :: trs2, env', h', by simp [h1], by simpa using h2, fun tr htr => ?_⟩
      have e0 : tr k = ⟨v, wr, acc⟩ := by simpa using htr 0 (by simp)
      refine ⟨.inl ⟨hg, ?_⟩, ?_⟩
      · rw [e0]; exact hop
      · rw [e0]
        exact h3 tr fun m hm => by
          have := htr (m + 1) (by simp; omega)
          simpa [Nat.add_assoc, Nat.add_comm 1 m] using this
    have hskip : guardB all.toArray env o.guard = some false → (forceL (putE env o.dst (.tup [])) fun env' => drawRun P T all rest (n0 + k + 1) env' h (⟨.tup [], [], []⟩ :: trs) K) →
        ∃ (trs2 : List Tr) (env' : List V) (h' : Heap), trs2.length = (o :: rest).length ∧ K (trs2.reverse ++ trs) env' h' ∧ ∀ tr : Nat → Tr, (∀ m, m < (o :: rest).length → tr (k + m) = trs2.getD m default) → LexD P T all.toArray n0 tr (fun D => D = (env', h')) (o :: rest) k (env, h) := fun hg hs => by
      rw [forceL_eq] at hs
      obtain ⟨trs2, env', h', h1, h2, h3⟩ := drawRun_ex rest (k + 1) _ _ _ K hs
      refine ⟨⟨.tup [], [], []⟩ :: trs2, env', h', by simp [h1], by simpa using h2, fun tr htr => ?_⟩
      have e0 : tr k = ⟨.tup [], [], []⟩ := by simpa using htr 0 (by simp)
      refine ⟨.inr ⟨hg, e0⟩, ?_⟩
      rw [e0]
      exact h3 tr fun m hm => by
        have := htr (m + 1) (by simp; omega)
        simpa [Nat.add_assoc, Nat.add_comm 1 m] using this
    rw [drawRun_cons] at hk
    unfold stepD at hk
    replace hk := guardN_old hk
    dsimp only at hk
    unfold guardP at hk
    split at hk
    · rename_i hg
      exact hrun (by simp [guardB, hg]) hk
    · rename_i j want hg
      split at hk
      · rename_i oj hoj
        split at hk
        · rename_i d hd
          have hb : ∀ b, env.getD d .undef = .bool b → guardB all.toArray env o.guard = some (b == want) := fun b hb => by
            simp [guardB, hg, hoj, hd] at hb ⊢; simp [hb]
          split at hk
          · rename_i b hb1
            cases b with
            | true => exact hrun (hb _ hb1) (hk.1 rfl)
            | false => exact hskip (hb _ hb1) (hk.2 rfl)
          · rename_i b hb1
            cases b with
            | true => exact hskip (hb _ hb1) (hk.1 rfl)
            | false => exact hrun (hb _ hb1) (hk.2 rfl)
          · rename_i hb1
            exact hskip (by simp [guardB, hg, hoj, hd] at hb1 ⊢; simp [hb1]) hk
          · cases hk
        · cases hk
      · cases hk

def drawP (P : Program) (T : Nat → Option TI) (ops : List Oper) (env : List V) (h : Heap) (K : List V → Heap → Prop) : Prop :=
  natL h.length fun n0 => forceH (h ++ List.replicate ops.length none) fun hp => drawRun P T ops ops n0 env hp [] fun trs env' h' => drawChk ops trs.reverse = true ∧ (forceH (trimAt n0 h') fun h' => K env' h')

theorem DrawP.intro {P : Program} {T : Nat → Option TI} (hT : TOk P T) (hm : P.follows .mixedOrders = true) {ops : List Oper} {env : List V} {h : Heap} {K : List V → Heap → Prop} (hk : drawP P T ops env h K) : DrawP P T ops env h K := by
  refine ⟨fun φ μ B w a id hB r he => wp_region_any hm ?_⟩
  simp only [drawP, natL_eq, forceH_eq] at hk
  obtain ⟨trs, env', h', hlen, hK, hlex⟩ := drawRun_ex (n0 := h.length) ops 0 env _ [] _ hk
  simp only [List.append_nil, List.reverse_reverse] at hK
  obtain ⟨hchk, hK⟩ := hK
  simp only [drawChk, forceL_eq, Bool.and_eq_true] at hchk
  obtain ⟨hc1, hc2⟩ := hchk
  have hs1 := chkAfter_spec ops 0 hc1
  have hs2 := chkPairs_spec ops trs [] [] rfl hc2
  have hlex := hlex (fun m => trs.getD m default) (fun m _ => by simp)
  have hany := anyD_lex (ops := ops.toArray) (cl := fun j => bitsOf ((clList ops []).getD j 0)) (n0 := h.length) (fun j o ho i hi => ?_) (fun j o ho e he hb => ?_) (fun i j oi oj hij hi hj hno => ?_) ops 0 (Array.replicate ops.toArray.size false) (env, h ++ List.replicate ops.length none) (fun m => by simp) (fun m hm => by simp [Array.getElem?_replicate]; split <;> rfl) (by simp) hlex
  · have hst : DSt φ μ B w a.defers h.length ops.toArray.size (Array.replicate ops.toArray.size false) (env, h ++ List.replicate ops.length none) φ μ a { w with drawn := w.drawn + 1 } :=
      ⟨he, r.pad (w' := { w with drawn := w.drawn + 1 }) rfl _, Ext.refl _ _ _, ⟨rfl, rfl, rfl, Nat.le_refl _, fun _ _ _ => rfl⟩, rfl, by simp, by simp, fun j hj hmj => by
        exfalso
        cases hmi : μ (h.length + j) with
        | none => exact hmj hmi
        | some x => have := (r.dom _ x.1 x.2 hmi).1; omega⟩
    refine anyD_ok hT hB ?_ ops.toArray.size _ _ φ μ a _ hst (by simpa using hany)
    · rintro D φ' μ' a' w' listed rfl hs
      refine ⟨env', _, φ', μ', rfl, hK, hs.env, ?_, hs.ext, hs.fr, hs.dfr⟩
      have hl : h'.length = h.length + ops.toArray.size := hs.len
      have htl := trimN_le (h'.drop h.length)
      refine Rel.trim hs.rel (by simp at htl; simp only; omega) fun i hi => ?_
      cases hmi : μ' i with
      | none => rfl
      | some x =>
        exfalso
        have hdom := (hs.rel.dom i x.1 x.2 hmi).1
        simp only at hdom
        have := (hs.new (i - h.length) (by omega) (by rw [show h.length + (i - h.length) = i by omega, hmi]; simp)).2
        rw [show h.length + (i - h.length) = i by omega] at this
        have htn := trimN_none (h'.drop h.length) (i - h.length) (by omega)
        rw [List.getElem?_drop, show h.length + (i - h.length) = i by omega] at htn
        exact this htn
  · have := (hs1 j o (by simpa using ho)).2 i (by simpa using hi)
    simpa using this
  · have := (hs1 j o (by simpa using ho)).1 e he hb
    simpa using this
  · have hjl : j < trs.length := by
      rw [hlen]
      have := (Array.getElem?_eq_some_iff.1 hj).1
      simpa using this
    refine hs2 j oj (trs.getD j default) (by simpa using hj) (by simp [hjl]) i oi (trs.getD i default) (by simpa using hij) (by simpa using hi) (by simp [show i < trs.length by omega]) (by simpa using hno)
end Go.Cv

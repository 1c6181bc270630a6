/- What functions of this seat compute, each for every argument of the shapes that are named; no condition beside the stated ones. -/
import Derived.Test.YtanhfplbimefmaaL8
import Derived.Test.YtanhfplbimefmaaCv18
namespace Go.Cv
open Go.Proofs
set_option maxRecDepth 100000
set_option maxHeartbeats 4000000

theorem names : namesB Try.prog = true := by kernel_rfl
def tw (n : Int) : Int := bif n.tmod 2 == 0 then 0 else 1
theorem tw_fn (n : Int) : Fn Try.prog 17 [.int .u8 n] (.int .u8 (tw n)) := two_fn n
def tails : Code → Nat → Code
  | c, 0 => c
  | .seq _ c, n + 1 => tails c n
  | c, _ + 1 => c
noncomputable def code4 : Code := match Try.f4.body with | some c => c | none => .skip
noncomputable def tail4 : Code := tails code4 5

theorem jn_snoc (xs : List Int) (y : Int) : jn [jn xs, y] = jn (xs ++ [y]) := by
  unfold jn
  cases h : xs.any fun x => decide (x > 0) <;> by_cases hy : y > 0 <;> simp [h, hy]
theorem mt_snoc (xs : List Int) (y : Int) : mt [mt xs, y] = mt (xs ++ [y]) := by
  unfold mt
  cases h : xs.any fun x => x == 0 <;> by_cases hy : y = 0 <;> simp [h, hy]
theorem jn_rev (xs : List Int) : jn xs.reverse = jn xs := by unfold jn; rw [List.any_reverse]
theorem mt_rev (xs : List Int) : mt xs.reverse = mt xs := by unfold mt; rw [List.any_reverse]

def env4 (ns : List Int) (all least : Int) (row back : V) (i : Nat) : List V :=
  [.undef, .psl 1 (ns.map lv) .any, .undef, .undef, .undef, .undef, .undef, .undef, .int .u8 all, .int .u8 least, row, back, .int .i64 i] ++ List.replicate 241 .undef
abbrev Inv4 (ns : List Int) (k : Nat) (e : List V) (h : Heap) : Prop :=
  ∃ (i : Nat) (ts : List Int) (row : V), i + k = 30 ∧ ts.length = i ∧ ((i = 0 ∧ row = .nils ∧ h = [none]) ∨ (0 < i ∧ row = .psl 1 (ts.map lv) (.own 1) ∧ h = [none, some (.token 1 i)])) ∧ e = env4 ns (jn ts) (mt ts) row (.psl 1 (ts.reverse.map lv) .any) i

def envF (ns ts : List Int) (i : Nat) : List V :=
  [.undef, .psl 1 (ns.map lv) .any, .undef, .undef, .undef, .undef, .undef, .undef, .int .u8 (jn ts), .int .u8 (mt ts), .psl 1 (ts.map lv) .any, .psl 1 (ts.reverse.map lv) .any, .int .i64 i] ++ List.replicate 241 .undef
noncomputable def fin4c : Code := tails tail4 4

theorem fin4 (ns ts : List Int) (i : Nat) (hp : Heap) (hl : ts.length ≤ 30) (hh : hp = [none] ∨ hp = [none, none]) : Wp Try.prog (tabOf tys) fin4c (envF ns ts i) hp fun x env' h' => match x with | .exit _ => False | _ => retP (tabOf tys) Try.f4.results.toList env' h' fun v _ => v = .bool true := by
  rcases hh with rfl | rfl
  all_goals
    refine Wp.of tysOk ?_
    refine (join' ts .any rfl (by omega)).sem _ ?_
    refine BCase.yes (beq_self_eq_true _) ?_
    refine BCase.yes rfl ?_
    refine (join' ts.reverse .any rfl (by simp; omega)).sem _ ?_
    refine BCase.yes rfl ?_
    refine BCase.yes rfl ?_
    rw [jn_rev]
    refine BCase.yes (beq_self_eq_true _) ?_
    refine BCase.yes rfl ?_
    refine (meet_fn ts _ .any rfl rfl (by omega)).sem _ ?_
    refine BCase.yes rfl ?_
    refine BCase.yes rfl ?_
    refine BCase.yes (beq_self_eq_true _) ?_
    refine BCase.yes rfl ?_
    refine (meet_fn ts.reverse _ .any rfl rfl (by simp; omega)).sem _ ?_
    rw [mt_rev]
    refine BCase.yes rfl ?_
    refine BCase.yes rfl ?_
    show V.bool (mt ts == mt ts) = V.bool true
    rw [beq_self_eq_true]

theorem tail4_wp (ns : List Int) :
    Wp Try.prog (tabOf tys) tail4 (.undef :: .psl 1 (ns.map lv) .any :: List.replicate 252 .undef) [none] fun x env' h' => match x with | .exit _ => False | _ => retP (tabOf tys) Try.f4.results.toList env' h' fun v _ => v = .bool true := by
  refine Wp.seq (Wp.of tysOk ?_)
  conv => whnf
  refine Wp.seq (Wp.of tysOk ?_)
  conv => whnf
  refine Wp.seq (Wp.of tysOk ?_)
  conv => whnf
  refine Wp.seq (Wp.seq (Wp.of tysOk ?_))
  conv => whnf
  refine Wp.block ?_
  refine Wp.loop (Inv4 ns) 30 ?_ ?_
  · refine ⟨_, _, .same ?_ ?_, 0, [], .nils, rfl, rfl, .inl ⟨rfl, rfl, rfl⟩, rfl⟩
    · repeat (first | exact trivial | refine ⟨.inl rfl, ?_⟩ | refine ⟨.inr (.inl rfl), ?_⟩ | refine ⟨.inr (.inr (.inr ⟨rfl, 1, rfl⟩)), ?_⟩)
    · repeat (first | exact trivial | refine ⟨.inl rfl, ?_⟩ | refine ⟨.inr rfl, ?_⟩)
  · rintro k e h ⟨i, ts, row, hik, hts, hrow, rfl⟩
    refine Wp.of tysOk ?_
    rcases hrow with ⟨rfl, rfl, rfl⟩ | ⟨hi0, rfl, rfl⟩
    · obtain rfl : ts = [] := List.length_eq_zero_iff.1 hts
      refine ⟨fun h1 => ?_, fun h1 => ?_⟩
      · refine BCase.yes rfl ?_
        refine ⟨fun h2 => ?_, fun h2 => ?_⟩
        · have hi : 0 < ns.length := by simpa using h1
          refine ⟨lv ns[0], ⟨by omega, by simp [hi]⟩, ?_⟩
          refine (tw_fn _).sem _ ?_
          refine ⟨⟨by decide, by decide, by simp⟩, ?_⟩
          refine ⟨lv ns[0], ⟨by omega, by simp [hi]⟩, ?_⟩
          refine (tw_fn _).sem _ ?_
          refine ⟨lv ns[0], ⟨by omega, by simp [hi]⟩, ?_⟩
          refine (tw_fn _).sem _ ?_
          refine (join_fn [_, _] _ .exact rfl rfl (by simp)).sem _ ?_
          refine ⟨lv ns[0], ⟨by omega, by simp [hi]⟩, ?_⟩
          refine (tw_fn _).sem _ ?_
          refine (meet_fn [_, _] _ .exact rfl rfl (by simp)).sem _ ?_
          refine ⟨k - 1, _, _, by omega, .same ?_ (dropH_refl _), 1, [] ++ [tw ns[0]], _, by omega, rfl, .inr ⟨by omega, rfl, rfl⟩, rfl⟩
          · unfold env4
            refine ⟨.inl rfl, .inl rfl, .inl rfl, .inl rfl, .inl rfl, .inl rfl, .inl rfl, .inl rfl, .inl (congrArg _ (jn_snoc _ _).symm), .inl (congrArg _ (mt_snoc _ _).symm), .inl (by simp [lv]), .inr (.inr (.inl ⟨_, _, _, rfl, by simp [lv]⟩)), .inl rfl, ?_⟩
            repeat (first | exact trivial | refine ⟨.inl rfl, ?_⟩ | refine ⟨.inr (.inl rfl), ?_⟩)
        · cases h2
      · refine BCase.no rfl ?_
        refine BCase.no rfl ?_
        refine Wp.weakT (env' := envF ns [] 0) ?_ (dropH_refl _) (fin4 ns [] 0 _ (by simp) (.inl rfl))
        unfold envF
        refine ⟨.inl rfl, .inl rfl, .inl rfl, .inl rfl, .inl rfl, .inl rfl, .inl rfl, .inl rfl, .inl rfl, .inl rfl, .inr (.inr (.inr ⟨rfl, 1, rfl⟩)), .inl rfl, .inl rfl, ?_⟩
        repeat (first | exact trivial | refine ⟨.inl rfl, ?_⟩ | refine ⟨.inr (.inl rfl), ?_⟩)
    · refine ⟨fun h1 => ?_, fun h1 => ?_⟩
      · refine BCase.yes rfl ?_
        refine ⟨fun h2 => ?_, fun h2 => ?_⟩
        · have hi : i < ns.length := by simpa using h1
          have h2' : i < 30 := by
            have : (i : Int) < 30 := by simpa using h2
            omega
          generalize hbs : ts.reverse = bs
          have hb : bs.length = i := by rw [← hbs, List.length_reverse, hts]
          obtain ⟨y, ys, rfl⟩ : ∃ y ys, bs = y :: ys := by cases bs with | nil => simp at hb; omega | cons y ys => exact ⟨y, ys, rfl⟩
          refine ⟨lv ns[i], ⟨by omega, by simp [hi]⟩, ?_⟩
          refine (tw_fn _).sem _ ?_
          refine ⟨⟨rfl, rfl, by simp [hts], by decide, by decide, by simp; omega⟩, ?_⟩
          refine ⟨lv ns[i], ⟨by omega, by simp [hi]⟩, ?_⟩
          refine (tw_fn _).sem _ ?_
          refine ⟨⟨rfl, by decide, by decide, by simp at hb ⊢; omega⟩, ?_⟩
          refine ⟨lv ns[i], ⟨by omega, by simp [hi]⟩, ?_⟩
          refine (tw_fn _).sem _ ?_
          refine (join_fn [_, _] _ .exact rfl rfl (by simp)).sem _ ?_
          refine ⟨lv ns[i], ⟨by omega, by simp [hi]⟩, ?_⟩
          refine (tw_fn _).sem _ ?_
          refine (meet_fn [_, _] _ .exact rfl rfl (by simp)).sem _ ?_
          refine ⟨k - 1, _, [_, _], by omega, .cut [_] ?_ (by simp) (dropH_refl _) ?_, i + 1, ts ++ [tw ns[i]], _, by omega, by simp [hts], .inr ⟨by omega, rfl, ?_⟩, rfl⟩
          · unfold env4
            refine ⟨.inl rfl, .inl rfl, .inl rfl, .inl rfl, .inl rfl, .inl rfl, .inl rfl, .inl rfl, .inl (congrArg _ (jn_snoc _ _).symm), .inl (congrArg _ (mt_snoc _ _).symm), .inl (by simp [lv]), .inr (.inr (.inl ⟨_, _, _, rfl, by rw [List.reverse_append, hbs]; rfl⟩)), .inl (congrArg _ (wrap_i64 (by omega) (by omega)).symm), ?_⟩
            repeat (first | exact trivial | refine ⟨.inl rfl, ?_⟩ | refine ⟨.inr (.inl rfl), ?_⟩)
          · rfl
          · simp [hts]
        · refine Wp.weakT (env' := envF ns ts i) ?_ ?_ (fin4 ns ts i [none, none] (by omega) (.inr rfl))
          · unfold envF
            refine ⟨.inl rfl, .inl rfl, .inl rfl, .inl rfl, .inl rfl, .inl rfl, .inl rfl, .inl rfl, .inl rfl, .inl rfl, .inr (.inr (.inl ⟨_, _, _, rfl, rfl⟩)), .inl rfl, .inl rfl, ?_⟩
            repeat (first | exact trivial | refine ⟨.inl rfl, ?_⟩ | refine ⟨.inr (.inl rfl), ?_⟩)
          · exact ⟨.inl rfl, .inr rfl, trivial⟩
      · refine BCase.no rfl ?_
        refine BCase.no rfl ?_
        refine Wp.weakT (env' := envF ns ts i) ?_ ?_ (fin4 ns ts i [none, none] (by omega) (.inr rfl))
        · unfold envF
          refine ⟨.inl rfl, .inl rfl, .inl rfl, .inl rfl, .inl rfl, .inl rfl, .inl rfl, .inl rfl, .inl rfl, .inl rfl, .inr (.inr (.inl ⟨_, _, _, rfl, rfl⟩)), .inl rfl, .inl rfl, ?_⟩
          repeat (first | exact trivial | refine ⟨.inl rfl, ?_⟩ | refine ⟨.inr (.inl rfl), ?_⟩)
        · exact ⟨.inl rfl, .inr rfl, trivial⟩

noncomputable def head4 : Code := match tails code4 3 with | .seq c _ => c | _ => .skip
noncomputable def head4' : Code := match tails code4 4 with | .seq c _ => c | _ => .skip

theorem lattice_sem (x y z : Int) (ns : List Int) : Sem Try.prog 4 [.agg [.int .u8 x, .int .u8 y, .int .u8 z], .psl 1 (ns.map lv) .any] [] fun v _ => v = .bool true := by
  refine Sem.of_Wp tysOk Try.func4 rfl rfl ?_
  refine Wp.seq (Wp.of tysOk ?_)
  conv => whnf
  refine Wp.seq (Wp.seq (Wp.of tysOk ?_))
  refine works_fn.sem _ ?_
  conv => whnf
  refine Wp.cond rfl (fun h => by cases h) (fun _ => ?_)
  refine Wp.of tysOk ?_
  conv => whnf
  refine Wp.seq (Wp.of tysOk ?_)
  refine DrawP.intro tysOk mixed ?_
  refine ⟨by decide, _, tw_fn _, ?_⟩
  refine ⟨by decide, _, tw_fn _, ?_⟩
  refine ⟨by decide, _, tw_fn _, ?_⟩
  refine ⟨by kernel_rfl, ?_⟩
  conv => whnf
  have htw : ∀ n, tw n = 0 ∨ tw n = 1 := fun n => by unfold tw; cases n.tmod 2 == 0 <;> simp
  have ha := htw x
  have hb := htw y
  have hc := htw z
  generalize tw x = a at ha ⊢
  generalize tw y = b at hb ⊢
  generalize tw z = c at hc ⊢
  refine Wp.weak (env' := .undef :: .psl 1 (ns.map lv) .any :: .undef :: .undef :: .undef :: .int .u8 a :: .int .u8 b :: .int .u8 c :: List.replicate 246 .undef) ?_ ?_
  · repeat (first | exact trivial | refine ⟨.inl rfl, ?_⟩ | refine ⟨.inr rfl, ?_⟩)
  refine Wp.weakT (h' := [none]) (forgT_of _ _ (forgE_refl _)) ⟨.inr rfl, trivial⟩ ?_
  have st : ∀ a b c : Int, (a = 0 ∨ a = 1) → (b = 0 ∨ b = 1) → (c = 0 ∨ c = 1) → wpE (callF Try.prog (tabOf tys) 100 20) (tabOf tys) 100 head4 (.undef :: .psl 1 (ns.map lv) .any :: .undef :: .undef :: .undef :: .int .u8 a :: .int .u8 b :: .int .u8 c :: List.replicate 246 .undef) [none]
      (fun z e h => match z with | .normal => some (.normal, keepE [false, true, false, false, false, true, true, true] e, h) | _ => none) = some (.normal, .undef :: .psl 1 (ns.map lv) .any :: .undef :: .undef :: .undef :: .int .u8 a :: .int .u8 b :: .int .u8 c :: List.replicate 246 .undef, [none]) := by
    rintro a b c (rfl | rfl) (rfl | rfl) (rfl | rfl) <;> kernel_rfl
  have st' : ∀ a b c : Int, (a = 0 ∨ a = 1) → (b = 0 ∨ b = 1) → (c = 0 ∨ c = 1) → wpE (callF Try.prog (tabOf tys) 100 20) (tabOf tys) 100 head4' (.undef :: .psl 1 (ns.map lv) .any :: .undef :: .undef :: .undef :: .int .u8 a :: .int .u8 b :: .int .u8 c :: List.replicate 246 .undef) [none]
      (fun z e h => match z with | .normal => some (.normal, keepE [false, true] e, h) | _ => none) = some (.normal, .undef :: .psl 1 (ns.map lv) .any :: List.replicate 252 .undef, [none]) := by
    rintro a b c (rfl | rfl) (rfl | rfl) (rfl | rfl) <;> kernel_rfl
  refine Wp.run_seq tysOk mixed names 100 20 [false, true, false, false, false, true, true, true] (st a b c ha hb hc) ?_
  refine Wp.run_seq tysOk mixed names 100 20 [false, true] (st' a b c ha hb hc) ?_
  exact tail4_wp ns
end Go.Cv

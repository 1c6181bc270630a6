/- What functions of this seat compute, each for every argument of the shapes that are named; no condition beside the stated ones. -/
import Derived.Test.YtanhfplbimefmaaL9
import Derived.Test.YtanhfplbimefmaaL10
namespace Go.Cv
open Go.Proofs
set_option maxRecDepth 100000
set_option maxHeartbeats 4000000

/-- What Low sees of both is one thing. -/
def lowAs (L : Int) (S S' : ByteArray) : Prop := L = 0 → S = S'
theorem seenL (S S' : ByteArray) (L : Int) (hL : 0 ≤ L) (h : lowAs L S S') : rdS S L 0 = rdS S' L 0 := by
  unfold rdS fl
  by_cases h0 : L = 0
  · rw [h h0]
  · have : L > 0 := by omega
    simp [this]
theorem rdE_low (L : Int) (hL : 0 ≤ L) : (rdE L 0 == 0) = (L == 0) := by
  unfold rdE fl
  by_cases h0 : L = 0
  · subst h0; rfl
  · have : L > 0 := by omega
    simp [this, h0]

def envA (l : V) (o : V) (i : Int) : List V := .undef :: l :: o :: .ptr 0 0 :: .undef :: .undef :: .undef :: .ptr 3 0 :: .ptr 4 0 :: .int .i64 i :: List.replicate 183 .undef
def sv (s : ByteArray) : List V := [.str s]

noncomputable def code6 : Code := match Try.f6.body with | some c => c | none => .skip
noncomputable def tail6 : Code := tails code6 4
noncomputable def loop6 : Code := match tail6 with | .seq (.seq _ (.block _ (.loop c))) _ => c | _ => .skip
noncomputable def in6 : Code := match loop6 with | .seq _ (.seq (.block _ c) _) => tails c 3 | _ => .skip
theorem tw01 (n : Int) : tw n = 0 ∨ tw n = 1 := by unfold tw; cases n.tmod 2 == 0 <;> simp
def envB (l : V) (o : V) (i : Int) (s t : ByteArray) (b : Int) : List V := .undef :: l :: o :: .ptr 0 0 :: .undef :: .undef :: .undef :: .ptr 3 0 :: .ptr 4 0 :: .int .i64 i :: .str s :: .str t :: .int .u8 b :: List.replicate 180 .undef
def hp6 (s0 S S' : ByteArray) (L M : Int) : Heap := [txc s0 L M, none, none, txc S L M, txc S' L M]
def Post6 (l o : V) (i : Int) (s0 : ByteArray) (L M : Int) (x : X) (e : List V) (h : Heap) : Prop :=
  (x = .normal ∨ x = .exit 1) ∧ ∃ S S', lowAs L S S' ∧ forgE e (envA l o i) ∧ (dropH h (hp6 s0 S S' L M) ∨ dropH h (hp6 s0 S S' L M ++ [none, none, none]))

def envC (l : V) (o : V) (i : Int) : List V := .undef :: l :: o :: .ptr 0 0 :: .undef :: .undef :: .undef :: .ptr 3 0 :: .ptr 4 0 :: .int .i64 i :: .undef :: .undef :: .undef :: .undef :: .undef :: .undef :: .undef :: .undef :: .ptr 6 0 :: .undef :: .ptr 7 0 :: List.replicate 172 .undef
theorem in6_ok (s0 S S' : ByteArray) (L M : Int) (hL : 0 ≤ L) (hS : lowAs L S S') (xs : List Act1) (o : V) (i : Nat) (hi : i < xs.length) (b : Int) (hb : b = 0 ∨ b = 1) (t : ByteArray) (ht : b = 0 → t = xs[i].2.1) :
    Wp Try.prog (tabOf tys) in6 (envB (.psl 3 (xs.map av) .any) o i xs[i].2.1 t b) (hp6 s0 S S' L M) (Post6 (.psl 3 (xs.map av) .any) o i s0 L M) := by
  refine Wp.seq (Wp.of tysOk ?_)
  refine ⟨av xs[i], ⟨by omega, by simp [hi]⟩, ?_⟩
  refine ⟨by decide, ?_⟩
  refine ⟨fun h4 => ?_, fun h4 => ?_⟩
  · refine (read_fn _ _ _ _).sem _ ?_
    refine (read_fn _ _ _ _).sem _ ?_
    rw [seenL S S' L hL hS]
    refine BCase.no (by simp [sEq_self]) ?_
    refine BCase.no rfl ?_
    refine BCase.no rfl ?_
    refine BCase.no (by simp) ?_
    refine BCase.no rfl ?_
    refine BCase.no rfl ?_
    refine BCase.no rfl ?_
    refine BCase.no rfl ?_
    refine BCase.no rfl ?_
    refine BCase.no (by rw [rdE_low L hL]; simp) ?_
    refine ⟨.inr rfl, S, S', hS, ?_, .inl (dropH_refl _)⟩
    repeat (first | exact trivial | refine ⟨.inl rfl, ?_⟩ | refine ⟨.inr rfl, ?_⟩)
  · -- what is written, and said of it
    have hw : ∃ (S1 S1' : ByteArray) (e f : Int), Fn Try.prog 21 [tx S L M, .str xs[i].2.1, .int .u8 b] (.tup [tx S1 L M, .int .i64 e]) ∧ Fn Try.prog 21 [tx S' L M, .str t, .int .u8 b] (.tup [tx S1' L M, .int .i64 f]) ∧ lowAs L S1 S1' ∧
        ((b = 0 ∧ e = f ∧ ((e = 0) ∨ (e = 4 ∧ S1 = S))) ∨ (b = 1 ∧ L = 0 ∧ e = 6 ∧ S1 = S) ∨ (b = 1 ∧ L > 0 ∧ (e = 0 ∨ (e = 4 ∧ S1 = S)))) := by
      refine ⟨_, _, _, _, write_fn _ _ _ _ _, write_fn _ _ _ _ _, ?_, ?_⟩
      · intro h0
        have h := hS h0
        subst h0; subst h
        rcases hb with rfl | rfl
        · rw [ht rfl]
        · rfl
      · rcases hb with rfl | rfl
        · refine .inl ⟨rfl, by rw [ht rfl], ?_⟩
          unfold wrE wrS wrOk
          rw [show fl 0 L = true from rfl]
          cases decide ((xs[i].2.1.size : Int) > M)
          · exact .inl rfl
          · exact .inr ⟨rfl, rfl⟩
        · by_cases h0 : L = 0
          · subst h0
            exact .inr (.inl ⟨rfl, rfl, rfl, rfl⟩)
          · have hp : L > 0 := by omega
            refine .inr (.inr ⟨rfl, hp, ?_⟩)
            unfold wrE wrS wrOk
            rw [show fl 1 L = true by simp [fl, hp]]
            cases decide ((xs[i].2.1.size : Int) > M)
            · exact .inl rfl
            · exact .inr ⟨rfl, rfl⟩
    obtain ⟨S1, S1', e, f, hw1, hw2, hS1, hc⟩ := hw
    conv => whnf
    refine Wp.seq (Wp.of tysOk ?_)
    conv => whnf
    refine Wp.seq (Wp.of tysOk ?_)
    refine hw1.sem _ ?_
    conv => whnf
    refine Wp.seq (Wp.of tysOk ?_)
    refine hw2.sem _ ?_
    conv => whnf
    refine Wp.seq (Wp.of tysOk ?_)
    have post : Wp Try.prog (tabOf tys) (tails in6 5) (envC (.psl 3 (xs.map av) .any) o i) [txc s0 L M, none, none, txc S L M, txc S' L M, txc S L M, txc S1 L M, txc S1' L M] (Post6 (.psl 3 (xs.map av) .any) o i s0 L M) := by
      refine Wp.seq (Wp.of tysOk ?_)
      conv => whnf
      refine Wp.seq (Wp.of tysOk ?_)
      conv => whnf
      refine Wp.of tysOk ?_
      refine DrawP.intro tysOk mixed ?_
      refine ⟨_, seen_fn _ _ _ _, ?_⟩
      refine ⟨_, seen_fn _ _ _ _, ?_⟩
      rw [seenL S1 S1' L hL hS1]
      refine BCase.no (by simp [sEq_self]) ?_
      refine BCase.no rfl ?_
      refine BCase.no rfl ?_
      refine BCase.no rfl ?_
      refine BCase.no rfl ?_
      refine BCase.no (by simp) ?_
      repeat (refine BCase.no rfl ?_)
      refine ⟨by kernel_rfl, ?_⟩
      refine BCase.no (by simp) ?_
      refine ⟨.inl rfl, S1, S1', hS1, ?_, .inr ?_⟩
      · repeat (first | exact trivial | refine ⟨.inl rfl, ?_⟩ | refine ⟨.inr rfl, ?_⟩)
      · repeat (first | exact trivial | refine ⟨.inl rfl, ?_⟩ | refine ⟨.inr rfl, ?_⟩)
    rcases hc with ⟨rfl, rfl, rfl | ⟨rfl, rfl⟩⟩ | ⟨rfl, rfl, rfl, rfl⟩ | ⟨rfl, hL0, rfl | ⟨rfl, rfl⟩⟩
    · repeat (first | refine BCase.yes rfl ?_ | refine BCase.no rfl ?_)
      conv => whnf
      refine Wp.weak ?_ post
      repeat (first | exact trivial | refine ⟨.inl rfl, ?_⟩ | refine ⟨.inr rfl, ?_⟩)
    · repeat (first | refine BCase.yes rfl ?_ | refine BCase.no rfl ?_)
      refine BCase.no (by simp [sEq_self]) ?_
      repeat (first | refine BCase.yes rfl ?_ | refine BCase.no rfl ?_)
      conv => whnf
      refine Wp.weak ?_ post
      repeat (first | exact trivial | refine ⟨.inl rfl, ?_⟩ | refine ⟨.inr rfl, ?_⟩)
    · repeat (first | refine BCase.yes rfl ?_ | refine BCase.no rfl ?_)
      refine BCase.no (by simp [sEq_self]) ?_
      repeat (first | refine BCase.yes rfl ?_ | refine BCase.no rfl ?_)
      refine BCase.no (by simp [sEq_self]) ?_
      repeat (first | refine BCase.yes rfl ?_ | refine BCase.no rfl ?_)
      conv => whnf
      refine Wp.weak ?_ post
      repeat (first | exact trivial | refine ⟨.inl rfl, ?_⟩ | refine ⟨.inr rfl, ?_⟩)
    · repeat (first | refine BCase.yes rfl ?_ | refine BCase.no rfl ?_)
      refine BCase.no (by simp; omega) ?_
      repeat (first | refine BCase.yes rfl ?_ | refine BCase.no rfl ?_)
      conv => whnf
      refine Wp.weak ?_ post
      repeat (first | exact trivial | refine ⟨.inl rfl, ?_⟩ | refine ⟨.inr rfl, ?_⟩)
    · repeat (first | refine BCase.yes rfl ?_ | refine BCase.no rfl ?_)
      refine BCase.no (by simp; omega) ?_
      repeat (first | refine BCase.yes rfl ?_ | refine BCase.no rfl ?_)
      refine BCase.no (by simp [sEq_self]) ?_
      repeat (first | refine BCase.yes rfl ?_ | refine BCase.no rfl ?_)
      conv => whnf
      refine Wp.weak ?_ post
      repeat (first | exact trivial | refine ⟨.inl rfl, ?_⟩ | refine ⟨.inr rfl, ?_⟩)

abbrev Inv6 (xs : List Act1) (os : List ByteArray) (s0 : ByteArray) (L M : Int) (k : Nat) (env : List V) (h : Heap) : Prop :=
  ∃ (i : Nat) (S S' : ByteArray), i + k = 40 ∧ lowAs L S S' ∧ h = hp6 s0 S S' L M ∧ env = envA (.psl 3 (xs.map av) .any) (.psl 1 (os.map sv) .any) i
noncomputable def inc6 : Code := match loop6 with | .seq _ (.seq _ c) => c | _ => .skip
theorem step6 {xs : List Act1} {os : List ByteArray} {s0 : ByteArray} {L M : Int} {k i : Nat} (hi : i < 40) (hik : i + k = 40) {x : X} {e : List V} {h : Heap} {QQ : X → List V → Heap → Prop} (hp : Post6 (.psl 3 (xs.map av) .any) (.psl 1 (os.map sv) .any) i s0 L M x e h) :
    (x = .normal ∨ x = .exit 1) ∧ Wp Try.prog (tabOf tys) inc6 e h fun x env1 h1 => match x with | .normal => ∃ k' env2 h2, k' < k ∧ Weak 5 env1 h1 env2 h2 ∧ Inv6 xs os s0 L M k' env2 h2 | x => QQ x env1 h1 := by
  obtain ⟨hx, S, S', hS, hf, hd⟩ := hp
  refine ⟨hx, ?_⟩
  rcases hd with hd | hd
  · refine Wp.weakT (forgT_of _ _ hf) hd (Wp.of tysOk ?_)
    refine ⟨k - 1, _, _, by omega, .of_forgE ?_, i + 1, S, S', by omega, hS, rfl, rfl⟩
    unfold envA
    rw [show ((i + 1 : Nat) : Int) = IntKind.i64.wrap ((i : Int) + 1) from (wrap_i64 (by omega) (by omega)).symm]
    repeat (first | exact trivial | refine ⟨.inl rfl, ?_⟩ | refine ⟨.inr rfl, ?_⟩)
  · refine Wp.weakT (forgT_of _ _ hf) hd (Wp.of tysOk ?_)
    refine ⟨k - 1, _, [_, _, _, _, _], by omega, .cut [none, none, none] (forgT_of _ _ ?_) (Nat.le_refl 5) (dropH_refl _) rfl, i + 1, S, S', by omega, hS, rfl, rfl⟩
    unfold envA
    rw [show ((i + 1 : Nat) : Int) = IntKind.i64.wrap ((i : Int) + 1) from (wrap_i64 (by omega) (by omega)).symm]
    repeat (first | exact trivial | refine ⟨.inl rfl, ?_⟩ | refine ⟨.inr rfl, ?_⟩)

theorem apart_loop (s0 : ByteArray) (L M : Int) (hL : 0 ≤ L) (xs : List Act1) (os : List ByteArray) (ho : os.length ≤ 9223372036854775807) (S S' : ByteArray) (hS : lowAs L S S') :
    Wp Try.prog (tabOf tys) tail6 (.undef :: .psl 3 (xs.map av) .any :: .psl 1 (os.map sv) .any :: .ptr 0 0 :: .undef :: .undef :: .undef :: .ptr 3 0 :: .ptr 4 0 :: List.replicate 184 .undef) (hp6 s0 S S' L M) fun x env' h' => match x with | .exit _ => False | _ => retP (tabOf tys) Try.f6.results.toList env' h' fun v _ => v = .bool true := by
  refine Wp.seq (Wp.seq (Wp.of tysOk ?_))
  conv => whnf
  refine Wp.block ?_
  refine Wp.loop (Inv6 xs os s0 L M) 40 ?_ ?_
  · refine ⟨_, _, .of_forgE ?_, 0, S, S', by omega, hS, rfl, rfl⟩
    repeat (first | exact trivial | refine ⟨.inl rfl, ?_⟩ | refine ⟨.inr rfl, ?_⟩)
  · rintro k env h ⟨i, S, S', hik, hS, rfl, rfl⟩
    have hlen : (xs.map av).length = xs.length := List.length_map _
    have fin : Wp Try.prog (tabOf tys) (tails tail6 1) (envA (.psl 3 (xs.map av) .any) (.psl 1 (os.map sv) .any) i) (hp6 s0 S S' L M) fun x env' h' => match x with | .exit _ => False | _ => retP (tabOf tys) Try.f6.results.toList env' h' fun v _ => v = .bool true := by
      refine Wp.of tysOk ?_
      refine DrawP.intro tysOk mixed ?_
      refine ⟨_, seen_fn _ _ _ _, ?_⟩
      have e1 : rdS S L 1 = S := by unfold rdS fl; simp
      rw [e1]
      refine BCase.yes (by simp [sEq_self]) ?_
      refine BCase.yes rfl ?_
      refine ⟨_, declassify_fn _ _ _, ?_⟩
      refine BCase.yes rfl ?_
      refine ⟨_, seen_fn _ _ _ _, ?_⟩
      refine BCase.yes rfl ?_
      refine BCase.yes rfl ?_
      refine ⟨_, declassify_fn _ _ _, ?_⟩
      refine BCase.yes rfl ?_
      refine ⟨by kernel_rfl, ?_⟩
      show V.bool (sEq S S && ((0 : Int) == 0 && (M == M && true))) = V.bool true
      simp [sEq_self]
    refine Wp.seq (Wp.of tysOk ?_)
    refine ⟨fun h1 => ?_, fun h1 => ?_⟩
    · have hi : i < xs.length := by simpa using h1
      refine BCase.yes rfl ?_
      refine ⟨fun h2 => ?_, fun h2 => ?_⟩
      · have h2' : i < 40 := by
          have h3 : (i : Int) < 40 := by simpa using h2
          omega
        conv => whnf
        refine Wp.seq (Wp.block (Wp.seq (Wp.of tysOk ?_)))
        refine DrawP.intro tysOk mixed ?_
        refine ⟨av xs[i], ⟨by omega, by simp [hi]⟩, ?_⟩
        refine ⟨av xs[i], ⟨by omega, by simp [hi]⟩, ?_⟩
        refine ⟨by kernel_rfl, ?_⟩
        conv => whnf
        refine Wp.seq (Wp.of tysOk ?_)
        refine ⟨av xs[i], ⟨by omega, by simp [hi]⟩, ?_⟩
        refine (tw_fn _).sem _ ?_
        have hb := tw01 xs[i].2.2
        generalize tw xs[i].2.2 = b at hb ⊢
        conv => whnf
        refine Wp.seq (Wp.of tysOk ?_)
        have nxt : ∀ t : ByteArray, (b = 0 → t = xs[i].2.1) → Wp Try.prog (tabOf tys) in6 (envB (.psl 3 (xs.map av) .any) (.psl 1 (os.map sv) .any) i xs[i].2.1 t b) (hp6 s0 S S' L M) (Post6 (.psl 3 (xs.map av) .any) (.psl 1 (os.map sv) .any) i s0 L M) := fun t ht => in6_ok s0 S S' L M hL hS xs _ i hi b hb t ht
        refine ⟨fun h3 => ?_, fun h3 => ?_⟩
        · have hb1 : b = 1 := by simpa using h3
          refine BCase.yes rfl ?_
          refine BCase.yes rfl ?_
          refine ⟨fun h4 => ?_, fun h4 => ?_⟩
          · have h4' : 0 < os.length := by simpa using h4
            have hm : i % os.length < os.length := Nat.mod_lt _ h4'
            refine ⟨by rw [List.length_map]; omega, ?_⟩
            have ht : (i : Int).tmod ((os.map sv).length : Nat) = ((i % os.length : Nat) : Int) := by rw [List.length_map]; rfl
            rw [ht]
            refine ⟨sv os[i % os.length], ⟨by omega, by rw [Int.toNat_natCast, List.getElem?_map, List.getElem?_eq_getElem hm]; rfl⟩, ?_⟩
            conv => whnf
            refine Wp.weak ?_ ((nxt os[i % os.length] (fun h => by omega)).mono fun x e h hp => ?_)
            rotate_left
            · have hx := (step6 (QQ := fun _ _ _ => True) h2' hik hp).1
              rcases hx with rfl | rfl <;> exact (step6 h2' hik hp).2
            repeat (first | exact trivial | refine ⟨.inl rfl, ?_⟩ | refine ⟨.inr rfl, ?_⟩)
          · conv => whnf
            refine Wp.weak ?_ ((nxt xs[i].2.1 (fun _ => rfl)).mono fun x e h hp => ?_)
            rotate_left
            · have hx := (step6 (QQ := fun _ _ _ => True) h2' hik hp).1
              rcases hx with rfl | rfl <;> exact (step6 h2' hik hp).2
            repeat (first | exact trivial | refine ⟨.inl rfl, ?_⟩ | refine ⟨.inr rfl, ?_⟩)
        · refine BCase.no rfl ?_
          refine BCase.no rfl ?_
          refine BCase.no rfl ?_
          conv => whnf
          refine Wp.weak ?_ ((nxt xs[i].2.1 (fun _ => rfl)).mono fun x e h hp => ?_)
          rotate_left
          · have hx := (step6 (QQ := fun _ _ _ => True) h2' hik hp).1
            rcases hx with rfl | rfl <;> exact (step6 h2' hik hp).2
          repeat (first | exact trivial | refine ⟨.inl rfl, ?_⟩ | refine ⟨.inr rfl, ?_⟩)
      · conv => whnf
        refine Wp.weak ?_ fin
        repeat (first | exact trivial | refine ⟨.inl rfl, ?_⟩ | refine ⟨.inr rfl, ?_⟩)
    · refine BCase.no rfl ?_
      refine BCase.no rfl ?_
      conv => whnf
      refine Wp.weak ?_ fin
      repeat (first | exact trivial | refine ⟨.inl rfl, ?_⟩ | refine ⟨.inr rfl, ?_⟩)

theorem apart_sem (s : ByteArray) (l m : Int) (hl : 0 ≤ l) (xs : List Act1) (os : List ByteArray) (ho : os.length ≤ 9223372036854775807) : Sem Try.prog 6 [tx s l m, .psl 3 (xs.map av) .any, .psl 1 (os.map sv) .any] [] fun v _ => v = .bool true := by
  refine Sem.of_Wp tysOk Try.func6 rfl rfl ?_
  refine Wp.seq (Wp.of tysOk ?_)
  conv => whnf
  refine Wp.seq (Wp.seq (Wp.of tysOk ?_))
  refine works_fn.sem _ ?_
  conv => whnf
  refine Wp.cond rfl (fun h => by cases h) (fun _ => ?_)
  refine Wp.of tysOk ?_
  conv => whnf
  refine Wp.seq (Wp.of tysOk ?_)
  refine DrawP.intro tysOk mixed ?_
  refine ⟨by kernel_rfl, ?_⟩
  conv => whnf
  refine Wp.seq (Wp.of tysOk ?_)
  refine ⟨fun h1 => ?_, fun h1 => ?_⟩
  · refine BCase.yes rfl ?_
    refine BCase.yes rfl ?_
    refine ⟨fun h2 => ?_, fun h2 => ?_⟩
    · have h2' : 0 < os.length := by simpa using h2
      refine ⟨sv os[0], ⟨by omega, by simp [h2']⟩, ?_⟩
      conv => whnf
      refine Wp.weak ?_ (apart_loop s l m hl xs os ho s os[0] (fun e => by simp [e] at h1))
      repeat (first | exact trivial | refine ⟨.inl rfl, ?_⟩ | refine ⟨.inr rfl, ?_⟩)
    · conv => whnf
      refine Wp.weak ?_ (apart_loop s l m hl xs os ho s s (fun _ => rfl))
      repeat (first | exact trivial | refine ⟨.inl rfl, ?_⟩ | refine ⟨.inr rfl, ?_⟩)
  · refine BCase.no rfl ?_
    refine BCase.no rfl ?_
    refine BCase.no rfl ?_
    conv => whnf
    refine Wp.weak ?_ (apart_loop s l m hl xs os ho s s (fun _ => rfl))
    repeat (first | exact trivial | refine ⟨.inl rfl, ?_⟩ | refine ⟨.inr rfl, ?_⟩)
end Go.Cv

/- What functions of this seat compute, each for every argument of the shapes that are named; no condition beside the stated ones. -/
import Derived.Test.YtifdekgmoekegaaDoorLT9g
import Derived.Lib.TrailingZeros
import Derived.Laws.Bits64b
namespace Go.Cx
open Go.Proofs
set_option maxRecDepth 100000
set_option maxHeartbeats 1000000
section
variable {P : Program} {T : Nat → Option TI}
theorem Wp.reg {id : Nat} {ops : Array Oper} {env : List V} {h : Heap} {Q : X → List V → Heap → Prop} (hT : TOk P T) (md : Nat → Bool) (hk : regP P T (md id) ops.toList ops.toList env h (Q .normal)) : Wp P T (.region id ops false) env h Q := by
  refine Wp.of hT (md := md) ?_
  show forceL ops.toList _
  rw [forceL_eq]
  exact hk
theorem regP_val {md : Bool} {all rest : List Oper} {o : Oper} {env : List V} {h : Heap} {K : List V → Heap → Prop} {d : Nat} (v v' : V) (hd : o.dst = some d) (hg : o.guard = none) (hop : ∀ K' : V → Heap → Prop, opY P T md (evE env) h K' o.op = K' v h) (hv : v = v') (hk : regP P T md all rest (env.set d v') h K) : regP P T md all (o :: rest) env h K := by
  rw [regP_cons]
  unfold stepP guardN
  rw [hd, hg]
  dsimp only
  rw [hop]
  simp only [V.force_eq, forceL_eq, forceH_eq]
  subst hv
  exact hk
end
theorem split64 {k : Nat} (h : k < 64) : k = 0 ∨ k = 1 ∨ k = 2 ∨ k = 3 ∨ k = 4 ∨ k = 5 ∨ k = 6 ∨ k = 7 ∨ k = 8 ∨ k = 9 ∨ k = 10 ∨ k = 11 ∨ k = 12 ∨ k = 13 ∨ k = 14 ∨ k = 15 ∨ k = 16 ∨ k = 17 ∨ k = 18 ∨ k = 19 ∨ k = 20 ∨ k = 21 ∨ k = 22 ∨ k = 23 ∨ k = 24 ∨ k = 25 ∨ k = 26 ∨ k = 27 ∨ k = 28 ∨ k = 29 ∨ k = 30 ∨ k = 31 ∨ k = 32 ∨ k = 33 ∨ k = 34 ∨ k = 35 ∨ k = 36 ∨ k = 37 ∨ k = 38 ∨ k = 39 ∨ k = 40 ∨ k = 41 ∨ k = 42 ∨ k = 43 ∨ k = 44 ∨ k = 45 ∨ k = 46 ∨ k = 47 ∨ k = 48 ∨ k = 49 ∨ k = 50 ∨ k = 51 ∨ k = 52 ∨ k = 53 ∨ k = 54 ∨ k = 55 ∨ k = 56 ∨ k = 57 ∨ k = 58 ∨ k = 59 ∨ k = 60 ∨ k = 61 ∨ k = 62 ∨ k = 63 := by omega
theorem tz_fn (x : Nat) (hx : x < 2 ^ 64) (h0 : x ≠ 0) : Fn Tryd.prog 33 [.int .u64 x] (.int .i64 (Go.Lib.ctz 64 x : Nat)) := by
  obtain ⟨hlow, hk⟩ := Go.Lib.lowest_bit 64 x h0 hx
  have e0 : IntKind.u64.wrap (0 - (x : Int)) = ((2 ^ 64 - x : Nat) : Int) := by rw [IntKind.wrap_u64]; omega
  have e1 : IntKind.u64.wrap ↑(BitVec.ofInt IntKind.u64.bits (x : Int) &&& BitVec.ofInt IntKind.u64.bits (((2 ^ 64 - x : Nat) : Int))).toNat = ((x &&& (2 ^ 64 - x) : Nat) : Int) := bits_and_u64_nat x _ hx (by omega)
  rw [hlow] at e1
  generalize Go.Lib.ctz 64 x = k at e1 hk
  generalize hy : 2 ^ 64 - x = y at e0 e1
  refine ⟨rfl, rfl, Sem.of_Wp tysOk Tryd.func33 rfl rfl ?_⟩
  refine Wp.seq (Wp.of (md := md0) tysOk ?_)
  conv => whnf
  refine Wp.seq (Wp.of (md := md0) tysOk ?_)
  refine BCase.no (by simp [h0]) ?_
  conv => whnf
  refine Wp.seq (Wp.reg tysOk md0 ?_)
  refine regP_val _ (.int .u64 (x : Int)) rfl rfl (fun _ => rfl) rfl ?_
  refine regP_val _ (.int .u64 (x : Int)) rfl rfl (fun _ => rfl) rfl ?_
  refine regP_val _ (.int .u64 (y : Int)) rfl rfl (fun _ => rfl) (congrArg (V.int .u64) e0) ?_
  refine regP_val _ (.int .u64 ((2 ^ k : Nat) : Int)) rfl rfl (fun _ => rfl) (congrArg (V.int .u64) e1) ?_
  clear e0 e1 hlow
  rcases split64 hk with rfl | rfl | rfl | rfl | rfl | rfl | rfl | rfl | rfl | rfl | rfl | rfl | rfl | rfl | rfl | rfl | rfl | rfl | rfl | rfl | rfl | rfl | rfl | rfl | rfl | rfl | rfl | rfl | rfl | rfl | rfl | rfl | rfl | rfl | rfl | rfl | rfl | rfl | rfl | rfl | rfl | rfl | rfl | rfl | rfl | rfl | rfl | rfl | rfl | rfl | rfl | rfl | rfl | rfl | rfl | rfl | rfl | rfl | rfl | rfl | rfl | rfl | rfl | rfl
  · refine regP_val _ (.int .u64 285870213051353865) rfl rfl (fun _ => rfl) rfl ?_
    refine regP_val _ (.int .u64 0) rfl rfl (fun _ => rfl) rfl ?_
    conv => whnf
    exact Wp.of (md := md0) tysOk rfl
  · refine regP_val _ (.int .u64 571740426102707730) rfl rfl (fun _ => rfl) rfl ?_
    refine regP_val _ (.int .u64 1) rfl rfl (fun _ => rfl) rfl ?_
    conv => whnf
    exact Wp.of (md := md0) tysOk rfl
  · refine regP_val _ (.int .u64 1143480852205415460) rfl rfl (fun _ => rfl) rfl ?_
    refine regP_val _ (.int .u64 3) rfl rfl (fun _ => rfl) rfl ?_
    conv => whnf
    exact Wp.of (md := md0) tysOk rfl
  · refine regP_val _ (.int .u64 2286961704410830920) rfl rfl (fun _ => rfl) rfl ?_
    refine regP_val _ (.int .u64 7) rfl rfl (fun _ => rfl) rfl ?_
    conv => whnf
    exact Wp.of (md := md0) tysOk rfl
  · refine regP_val _ (.int .u64 4573923408821661840) rfl rfl (fun _ => rfl) rfl ?_
    refine regP_val _ (.int .u64 15) rfl rfl (fun _ => rfl) rfl ?_
    conv => whnf
    exact Wp.of (md := md0) tysOk rfl
  · refine regP_val _ (.int .u64 9147846817643323680) rfl rfl (fun _ => rfl) rfl ?_
    refine regP_val _ (.int .u64 31) rfl rfl (fun _ => rfl) rfl ?_
    conv => whnf
    exact Wp.of (md := md0) tysOk rfl
  · refine regP_val _ (.int .u64 18295693635286647360) rfl rfl (fun _ => rfl) rfl ?_
    refine regP_val _ (.int .u64 63) rfl rfl (fun _ => rfl) rfl ?_
    conv => whnf
    exact Wp.of (md := md0) tysOk rfl
  · refine regP_val _ (.int .u64 18144643196863743104) rfl rfl (fun _ => rfl) rfl ?_
    refine regP_val _ (.int .u64 62) rfl rfl (fun _ => rfl) rfl ?_
    conv => whnf
    exact Wp.of (md := md0) tysOk rfl
  · refine regP_val _ (.int .u64 17842542320017934592) rfl rfl (fun _ => rfl) rfl ?_
    refine regP_val _ (.int .u64 61) rfl rfl (fun _ => rfl) rfl ?_
    conv => whnf
    exact Wp.of (md := md0) tysOk rfl
  · refine regP_val _ (.int .u64 17238340566326317568) rfl rfl (fun _ => rfl) rfl ?_
    refine regP_val _ (.int .u64 59) rfl rfl (fun _ => rfl) rfl ?_
    conv => whnf
    exact Wp.of (md := md0) tysOk rfl
  · refine regP_val _ (.int .u64 16029937058943083520) rfl rfl (fun _ => rfl) rfl ?_
    refine regP_val _ (.int .u64 55) rfl rfl (fun _ => rfl) rfl ?_
    conv => whnf
    exact Wp.of (md := md0) tysOk rfl
  · refine regP_val _ (.int .u64 13613130044176615424) rfl rfl (fun _ => rfl) rfl ?_
    refine regP_val _ (.int .u64 47) rfl rfl (fun _ => rfl) rfl ?_
    conv => whnf
    exact Wp.of (md := md0) tysOk rfl
  · refine regP_val _ (.int .u64 8779516014643679232) rfl rfl (fun _ => rfl) rfl ?_
    refine regP_val _ (.int .u64 30) rfl rfl (fun _ => rfl) rfl ?_
    conv => whnf
    exact Wp.of (md := md0) tysOk rfl
  · refine regP_val _ (.int .u64 17559032029287358464) rfl rfl (fun _ => rfl) rfl ?_
    refine regP_val _ (.int .u64 60) rfl rfl (fun _ => rfl) rfl ?_
    conv => whnf
    exact Wp.of (md := md0) tysOk rfl
  · refine regP_val _ (.int .u64 16671319984865165312) rfl rfl (fun _ => rfl) rfl ?_
    refine regP_val _ (.int .u64 57) rfl rfl (fun _ => rfl) rfl ?_
    conv => whnf
    exact Wp.of (md := md0) tysOk rfl
  · refine regP_val _ (.int .u64 14895895896020779008) rfl rfl (fun _ => rfl) rfl ?_
    refine regP_val _ (.int .u64 51) rfl rfl (fun _ => rfl) rfl ?_
    conv => whnf
    exact Wp.of (md := md0) tysOk rfl
  · refine regP_val _ (.int .u64 11345047718332006400) rfl rfl (fun _ => rfl) rfl ?_
    refine regP_val _ (.int .u64 39) rfl rfl (fun _ => rfl) rfl ?_
    conv => whnf
    exact Wp.of (md := md0) tysOk rfl
  · refine regP_val _ (.int .u64 4243351362954461184) rfl rfl (fun _ => rfl) rfl ?_
    refine regP_val _ (.int .u64 14) rfl rfl (fun _ => rfl) rfl ?_
    conv => whnf
    exact Wp.of (md := md0) tysOk rfl
  · refine regP_val _ (.int .u64 8486702725908922368) rfl rfl (fun _ => rfl) rfl ?_
    refine regP_val _ (.int .u64 29) rfl rfl (fun _ => rfl) rfl ?_
    conv => whnf
    exact Wp.of (md := md0) tysOk rfl
  · refine regP_val _ (.int .u64 16973405451817844736) rfl rfl (fun _ => rfl) rfl ?_
    refine regP_val _ (.int .u64 58) rfl rfl (fun _ => rfl) rfl ?_
    conv => whnf
    exact Wp.of (md := md0) tysOk rfl
  · refine regP_val _ (.int .u64 15500066829926137856) rfl rfl (fun _ => rfl) rfl ?_
    refine regP_val _ (.int .u64 53) rfl rfl (fun _ => rfl) rfl ?_
    conv => whnf
    exact Wp.of (md := md0) tysOk rfl
  · refine regP_val _ (.int .u64 12553389586142724096) rfl rfl (fun _ => rfl) rfl ?_
    refine regP_val _ (.int .u64 43) rfl rfl (fun _ => rfl) rfl ?_
    conv => whnf
    exact Wp.of (md := md0) tysOk rfl
  · refine regP_val _ (.int .u64 6660035098575896576) rfl rfl (fun _ => rfl) rfl ?_
    refine regP_val _ (.int .u64 23) rfl rfl (fun _ => rfl) rfl ?_
    conv => whnf
    exact Wp.of (md := md0) tysOk rfl
  · refine regP_val _ (.int .u64 13320070197151793152) rfl rfl (fun _ => rfl) rfl ?_
    refine regP_val _ (.int .u64 46) rfl rfl (fun _ => rfl) rfl ?_
    conv => whnf
    exact Wp.of (md := md0) tysOk rfl
  · refine regP_val _ (.int .u64 8193396320594034688) rfl rfl (fun _ => rfl) rfl ?_
    refine regP_val _ (.int .u64 28) rfl rfl (fun _ => rfl) rfl ?_
    conv => whnf
    exact Wp.of (md := md0) tysOk rfl
  · refine regP_val _ (.int .u64 16386792641188069376) rfl rfl (fun _ => rfl) rfl ?_
    refine regP_val _ (.int .u64 56) rfl rfl (fun _ => rfl) rfl ?_
    conv => whnf
    exact Wp.of (md := md0) tysOk rfl
  · refine regP_val _ (.int .u64 14326841208666587136) rfl rfl (fun _ => rfl) rfl ?_
    refine regP_val _ (.int .u64 49) rfl rfl (fun _ => rfl) rfl ?_
    conv => whnf
    exact Wp.of (md := md0) tysOk rfl
  · refine regP_val _ (.int .u64 10206938343623622656) rfl rfl (fun _ => rfl) rfl ?_
    refine regP_val _ (.int .u64 35) rfl rfl (fun _ => rfl) rfl ?_
    conv => whnf
    exact Wp.of (md := md0) tysOk rfl
  · refine regP_val _ (.int .u64 1967132613537693696) rfl rfl (fun _ => rfl) rfl ?_
    refine regP_val _ (.int .u64 6) rfl rfl (fun _ => rfl) rfl ?_
    conv => whnf
    exact Wp.of (md := md0) tysOk rfl
  · refine regP_val _ (.int .u64 3934265227075387392) rfl rfl (fun _ => rfl) rfl ?_
    refine regP_val _ (.int .u64 13) rfl rfl (fun _ => rfl) rfl ?_
    conv => whnf
    exact Wp.of (md := md0) tysOk rfl
  · refine regP_val _ (.int .u64 7868530454150774784) rfl rfl (fun _ => rfl) rfl ?_
    refine regP_val _ (.int .u64 27) rfl rfl (fun _ => rfl) rfl ?_
    conv => whnf
    exact Wp.of (md := md0) tysOk rfl
  · refine regP_val _ (.int .u64 15737060908301549568) rfl rfl (fun _ => rfl) rfl ?_
    refine regP_val _ (.int .u64 54) rfl rfl (fun _ => rfl) rfl ?_
    conv => whnf
    exact Wp.of (md := md0) tysOk rfl
  · refine regP_val _ (.int .u64 13027377742893547520) rfl rfl (fun _ => rfl) rfl ?_
    refine regP_val _ (.int .u64 45) rfl rfl (fun _ => rfl) rfl ?_
    conv => whnf
    exact Wp.of (md := md0) tysOk rfl
  · refine regP_val _ (.int .u64 7608011412077543424) rfl rfl (fun _ => rfl) rfl ?_
    refine regP_val _ (.int .u64 26) rfl rfl (fun _ => rfl) rfl ?_
    conv => whnf
    exact Wp.of (md := md0) tysOk rfl
  · refine regP_val _ (.int .u64 15216022824155086848) rfl rfl (fun _ => rfl) rfl ?_
    refine regP_val _ (.int .u64 52) rfl rfl (fun _ => rfl) rfl ?_
    conv => whnf
    exact Wp.of (md := md0) tysOk rfl
  · refine regP_val _ (.int .u64 11985301574600622080) rfl rfl (fun _ => rfl) rfl ?_
    refine regP_val _ (.int .u64 41) rfl rfl (fun _ => rfl) rfl ?_
    conv => whnf
    exact Wp.of (md := md0) tysOk rfl
  · refine regP_val _ (.int .u64 5523859075491692544) rfl rfl (fun _ => rfl) rfl ?_
    refine regP_val _ (.int .u64 19) rfl rfl (fun _ => rfl) rfl ?_
    conv => whnf
    exact Wp.of (md := md0) tysOk rfl
  · refine regP_val _ (.int .u64 11047718150983385088) rfl rfl (fun _ => rfl) rfl ?_
    refine regP_val _ (.int .u64 38) rfl rfl (fun _ => rfl) rfl ?_
    conv => whnf
    exact Wp.of (md := md0) tysOk rfl
  · refine regP_val _ (.int .u64 3648692228257218560) rfl rfl (fun _ => rfl) rfl ?_
    refine regP_val _ (.int .u64 12) rfl rfl (fun _ => rfl) rfl ?_
    conv => whnf
    exact Wp.of (md := md0) tysOk rfl
  · refine regP_val _ (.int .u64 7297384456514437120) rfl rfl (fun _ => rfl) rfl ?_
    refine regP_val _ (.int .u64 25) rfl rfl (fun _ => rfl) rfl ?_
    conv => whnf
    exact Wp.of (md := md0) tysOk rfl
  · refine regP_val _ (.int .u64 14594768913028874240) rfl rfl (fun _ => rfl) rfl ?_
    refine regP_val _ (.int .u64 50) rfl rfl (fun _ => rfl) rfl ?_
    conv => whnf
    exact Wp.of (md := md0) tysOk rfl
  · refine regP_val _ (.int .u64 10742793752348196864) rfl rfl (fun _ => rfl) rfl ?_
    refine regP_val _ (.int .u64 37) rfl rfl (fun _ => rfl) rfl ?_
    conv => whnf
    exact Wp.of (md := md0) tysOk rfl
  · refine regP_val _ (.int .u64 3038843430986842112) rfl rfl (fun _ => rfl) rfl ?_
    refine regP_val _ (.int .u64 10) rfl rfl (fun _ => rfl) rfl ?_
    conv => whnf
    exact Wp.of (md := md0) tysOk rfl
  · refine regP_val _ (.int .u64 6077686861973684224) rfl rfl (fun _ => rfl) rfl ?_
    refine regP_val _ (.int .u64 21) rfl rfl (fun _ => rfl) rfl ?_
    conv => whnf
    exact Wp.of (md := md0) tysOk rfl
  · refine regP_val _ (.int .u64 12155373723947368448) rfl rfl (fun _ => rfl) rfl ?_
    refine regP_val _ (.int .u64 42) rfl rfl (fun _ => rfl) rfl ?_
    conv => whnf
    exact Wp.of (md := md0) tysOk rfl
  · refine regP_val _ (.int .u64 5864003374185185280) rfl rfl (fun _ => rfl) rfl ?_
    refine regP_val _ (.int .u64 20) rfl rfl (fun _ => rfl) rfl ?_
    conv => whnf
    exact Wp.of (md := md0) tysOk rfl
  · refine regP_val _ (.int .u64 11728006748370370560) rfl rfl (fun _ => rfl) rfl ?_
    refine regP_val _ (.int .u64 40) rfl rfl (fun _ => rfl) rfl ?_
    conv => whnf
    exact Wp.of (md := md0) tysOk rfl
  · refine regP_val _ (.int .u64 5009269423031189504) rfl rfl (fun _ => rfl) rfl ?_
    refine regP_val _ (.int .u64 17) rfl rfl (fun _ => rfl) rfl ?_
    conv => whnf
    exact Wp.of (md := md0) tysOk rfl
  · refine regP_val _ (.int .u64 10018538846062379008) rfl rfl (fun _ => rfl) rfl ?_
    refine regP_val _ (.int .u64 34) rfl rfl (fun _ => rfl) rfl ?_
    conv => whnf
    exact Wp.of (md := md0) tysOk rfl
  · refine regP_val _ (.int .u64 1590333618415206400) rfl rfl (fun _ => rfl) rfl ?_
    refine regP_val _ (.int .u64 5) rfl rfl (fun _ => rfl) rfl ?_
    conv => whnf
    exact Wp.of (md := md0) tysOk rfl
  · refine regP_val _ (.int .u64 3180667236830412800) rfl rfl (fun _ => rfl) rfl ?_
    refine regP_val _ (.int .u64 11) rfl rfl (fun _ => rfl) rfl ?_
    conv => whnf
    exact Wp.of (md := md0) tysOk rfl
  · refine regP_val _ (.int .u64 6361334473660825600) rfl rfl (fun _ => rfl) rfl ?_
    refine regP_val _ (.int .u64 22) rfl rfl (fun _ => rfl) rfl ?_
    conv => whnf
    exact Wp.of (md := md0) tysOk rfl
  · refine regP_val _ (.int .u64 12722668947321651200) rfl rfl (fun _ => rfl) rfl ?_
    refine regP_val _ (.int .u64 44) rfl rfl (fun _ => rfl) rfl ?_
    conv => whnf
    exact Wp.of (md := md0) tysOk rfl
  · refine regP_val _ (.int .u64 6998593820933750784) rfl rfl (fun _ => rfl) rfl ?_
    refine regP_val _ (.int .u64 24) rfl rfl (fun _ => rfl) rfl ?_
    conv => whnf
    exact Wp.of (md := md0) tysOk rfl
  · refine regP_val _ (.int .u64 13997187641867501568) rfl rfl (fun _ => rfl) rfl ?_
    refine regP_val _ (.int .u64 48) rfl rfl (fun _ => rfl) rfl ?_
    conv => whnf
    exact Wp.of (md := md0) tysOk rfl
  · refine regP_val _ (.int .u64 9547631210025451520) rfl rfl (fun _ => rfl) rfl ?_
    refine regP_val _ (.int .u64 33) rfl rfl (fun _ => rfl) rfl ?_
    conv => whnf
    exact Wp.of (md := md0) tysOk rfl
  · refine regP_val _ (.int .u64 648518346341351424) rfl rfl (fun _ => rfl) rfl ?_
    refine regP_val _ (.int .u64 2) rfl rfl (fun _ => rfl) rfl ?_
    conv => whnf
    exact Wp.of (md := md0) tysOk rfl
  · refine regP_val _ (.int .u64 1297036692682702848) rfl rfl (fun _ => rfl) rfl ?_
    refine regP_val _ (.int .u64 4) rfl rfl (fun _ => rfl) rfl ?_
    conv => whnf
    exact Wp.of (md := md0) tysOk rfl
  · refine regP_val _ (.int .u64 2594073385365405696) rfl rfl (fun _ => rfl) rfl ?_
    refine regP_val _ (.int .u64 9) rfl rfl (fun _ => rfl) rfl ?_
    conv => whnf
    exact Wp.of (md := md0) tysOk rfl
  · refine regP_val _ (.int .u64 5188146770730811392) rfl rfl (fun _ => rfl) rfl ?_
    refine regP_val _ (.int .u64 18) rfl rfl (fun _ => rfl) rfl ?_
    conv => whnf
    exact Wp.of (md := md0) tysOk rfl
  · refine regP_val _ (.int .u64 10376293541461622784) rfl rfl (fun _ => rfl) rfl ?_
    refine regP_val _ (.int .u64 36) rfl rfl (fun _ => rfl) rfl ?_
    conv => whnf
    exact Wp.of (md := md0) tysOk rfl
  · refine regP_val _ (.int .u64 2305843009213693952) rfl rfl (fun _ => rfl) rfl ?_
    refine regP_val _ (.int .u64 8) rfl rfl (fun _ => rfl) rfl ?_
    conv => whnf
    exact Wp.of (md := md0) tysOk rfl
  · refine regP_val _ (.int .u64 4611686018427387904) rfl rfl (fun _ => rfl) rfl ?_
    refine regP_val _ (.int .u64 16) rfl rfl (fun _ => rfl) rfl ?_
    conv => whnf
    exact Wp.of (md := md0) tysOk rfl
  · refine regP_val _ (.int .u64 9223372036854775808) rfl rfl (fun _ => rfl) rfl ?_
    refine regP_val _ (.int .u64 32) rfl rfl (fun _ => rfl) rfl ?_
    conv => whnf
    exact Wp.of (md := md0) tysOk rfl
end Go.Cx
namespace Go.Cx
open Go.Proofs
set_option maxRecDepth 100000
set_option maxHeartbeats 10000000
/-- What a range's record keeps may be forgotten. -/
theorem RangeP.fgt {P : Program} {T : Nat → Option TI} {f : Operand} {ps : Array Tmp} {asg bo : Code} {env : List V} (env' : List V) {h : Heap} {Q : X → List V → Heap → Prop} (hf : forgE env env') (hk : RangeP P T f ps asg bo env' h Q) : RangeP P T f ps asg bo env h Q :=
  ⟨fun ρ φ μ B w a hro hB r he => hk.run ρ φ μ B w a hro hB r (he.forg hf)⟩
/-! ### The bits of a word, in order -/
def wordL (x : Nat) : List Nat := (List.range 64).filter x.testBit
theorem wordL_zero : wordL 0 = [] := by unfold wordL; rw [List.filter_eq_nil_iff]; intro a _; simp
theorem and_pred (x k m : Nat) (hx : x = 2 ^ k * (2 * m + 1)) (j : Nat) : (x &&& (x - 1)).testBit j = (x.testBit j && !decide (j = k)) := by
  have hp : 0 < 2 ^ k := Nat.two_pow_pos k
  have e1 : x = (2 * m + 1) * 2 ^ k := by rw [hx, Nat.mul_comm]
  have e2 : x - 1 = 2 ^ k * (2 * m) + (2 ^ k - 1) := by rw [hx, Nat.mul_add]; omega
  rw [Nat.testBit_and]
  have b2 : (x - 1).testBit j = if j < k then (2 ^ k - 1).testBit j else (2 * m).testBit (j - k) := by
    rw [e2, Nat.testBit_two_pow_mul_add _ (by omega)]
  have b1 : x.testBit j = (decide (k ≤ j) && (2 * m + 1).testBit (j - k)) := by rw [e1, Nat.testBit_mul_two_pow]
  rw [b1, b2]
  by_cases hj : j < k
  · have : decide (k ≤ j) = false := by simp; omega
    rw [this]; simp
  · rw [if_neg hj]
    by_cases hjk : j = k
    · subst hjk; simp
    · obtain ⟨d, rfl⟩ : ∃ d, j = k + (d + 1) := ⟨j - k - 1, by omega⟩
      rw [show k + (d + 1) - k = d + 1 by omega, Nat.testBit_succ, Nat.testBit_succ, show (2 * m + 1) / 2 = m by omega, show 2 * m / 2 = m by omega]
      simp
theorem low_bits (x k m : Nat) (hx : x = 2 ^ k * (2 * m + 1)) (j : Nat) (hj : j ≤ k) : x.testBit j = decide (j = k) := by
  have e1 : x = (2 * m + 1) * 2 ^ k := by rw [hx, Nat.mul_comm]
  rw [e1, Nat.testBit_mul_two_pow]
  by_cases h : j = k
  · subst h; simp
  · have : decide (k ≤ j) = false := by simp; omega
    rw [this]; simp [h]
theorem filter_first {p q : Nat → Bool} {n k : Nat} (hk : k < n) (hp : ∀ j, j ≤ k → p j = decide (j = k)) (hq : ∀ j, q j = (p j && !decide (j = k))) : (List.range n).filter p = k :: (List.range n).filter q := by
  have e : List.range n = List.range k ++ k :: List.range' (k + 1) (n - k - 1) := by
    rw [List.range_eq_range', List.range_eq_range', show n = k + (1 + (n - k - 1)) by omega, ← List.range'_append_1, ← List.range'_append_1]
    simp
  have h1 : (List.range k).filter p = [] := by
    rw [List.filter_eq_nil_iff]
    intro j hj
    have := List.mem_range.1 hj
    rw [hp j (by omega)]
    simp; omega
  have h2 : (List.range k).filter q = [] := by
    rw [List.filter_eq_nil_iff]
    intro j hj
    have := List.mem_range.1 hj
    rw [hq, hp j (by omega)]
    simp
  have h3 : (List.range' (k + 1) (n - k - 1)).filter p = (List.range' (k + 1) (n - k - 1)).filter q := by
    apply List.filter_congr
    intro j hj
    have := (List.mem_range'_1.1 hj).1
    rw [hq]
    have : decide (j = k) = false := by simp; omega
    rw [this]; simp
  have pk : p k = true := by rw [hp k (Nat.le_refl _)]; simp
  have qk : q k = false := by rw [hq, pk]; simp
  rw [e, List.filter_append, List.filter_append, h1, h2, List.filter_cons_of_pos pk, List.filter_cons_of_neg (by simp [qk]), h3]
  rfl
theorem wordL_step (x : Nat) (hx : x < 2 ^ 64) (h0 : x ≠ 0) : wordL x = Go.Lib.ctz 64 x :: wordL (x &&& (x - 1)) ∧ Go.Lib.ctz 64 x < 64 := by
  obtain ⟨m, hm, hk⟩ := Go.Lib.ctzFrom_spec 64 x (by omega) hx
  have e : Go.Lib.ctz 64 x = Go.Lib.ctzFrom 64 x := by simp [Go.Lib.ctz, h0]
  rw [e]
  exact ⟨filter_first hk (fun j hj => low_bits x _ m hm j hj) (fun j => and_pred x _ m hm j), hk⟩
/-- The columns at words from i on, n words. -/
def stopsN (w : Nat → Nat) (i : Nat) : Nat → List Int
  | 0 => []
  | n + 1 => (wordL (w i)).map (fun b => ((i * 64 + b : Nat) : Int)) ++ stopsN w (i + 1) n
def Tb.stops (t : Tb) : List Int := stopsN t.w 0 8
theorem stopsN_len (w : Nat → Nat) : ∀ (n i : Nat), (stopsN w i n).length ≤ 64 * n
  | 0, _ => by simp [stopsN]
  | n + 1, i => by
    have h1 := stopsN_len w n (i + 1)
    have h2 : (wordL (w i)).length ≤ 64 := by
      unfold wordL
      exact Nat.le_trans (List.length_filter_le _ _) (by simp)
    simp only [stopsN, List.length_append, List.length_map]
    omega
theorem tz_lt (x : Nat) (hx : x < 2 ^ 64) (h0 : x ≠ 0) : Go.Lib.ctz 64 x < 64 := (wordL_step x hx h0).2
theorem left_eq (x : Nat) (hx : x < 2 ^ 64) (h0 : x ≠ 0) : IntKind.u64.wrap ↑(BitVec.ofInt IntKind.u64.bits (x : Int) &&& BitVec.ofInt IntKind.u64.bits (IntKind.u64.wrap ((x : Int) - 1))).toNat = ((x &&& (x - 1) : Nat) : Int) := by
  have e0 : IntKind.u64.wrap ((x : Int) - 1) = ((x - 1 : Nat) : Int) := by rw [IntKind.wrap_u64]; omega
  rw [e0]
  exact bits_and_u64_nat x _ hx (by omega)
theorem col_eq (i b : Nat) (hi : i < 8) (hb : b < 64) : IntKind.i64.wrap (IntKind.i64.wrap ((i : Int) * 64) + ((b : Nat) : Int)) = ((i * 64 + b : Nat) : Int) := by
  rw [wr64 (n := (i : Int) * 64) (by omega) (by omega), wr64 (by omega) (by omega)]; omega
end Go.Cx
namespace Go.Cx
open Go.Proofs
set_option maxRecDepth 100000
set_option maxHeartbeats 10000000
def outL (full : List Int) (j : Nat) : V := match j with | 0 => .nils | _ => .psl 1 (colsV (full.take j)) (.own 5)
noncomputable def rf11 : Code × Code := match Tryd.f11.body with
  | some (.seq _ (.seq _ (.seq (.seq _ (.block _ (.rangeFunc _ _ asg bo))) _))) => (asg, bo)
  | _ => (.skip, .skip)
def envR11 : List V := .undef :: .undef :: .ptr 1 0 :: List.replicate 11 .undef ++ .fn (.func 32) [] [.ptr 3 0, .ptr 2 0] :: List.replicate 6 .undef
noncomputable def R11 : Option Blk := lB envR11 [15] rf11.1 rf11.2 .ready none
noncomputable def hpL (t : Tb) (full : List Int) (j : Nat) : Heap := match j with
  | 0 => [tB t, some (.cells 36 [.nils]), tB t, some (.cells 3 [.int .i64 (-1)]), R11]
  | _ => [tB t, some (.cells 36 [outL full j]), tB t, some (.cells 3 [.int .i64 (-1)]), R11, some (.token 1 j)]
def envO (i : Int) : List V := .yld 4 :: .ptr 3 0 :: .ptr 2 0 :: .undef :: .int .i64 i :: List.replicate 33 .undef
def envI (i x : Int) : List V := .yld 4 :: .ptr 3 0 :: .ptr 2 0 :: .undef :: .int .i64 i :: .int .u64 x :: List.replicate 32 .undef
noncomputable def cIn : Code := match Tryd.f32.body with
  | some (.seq _ (.block _ (.loop (.seq _ (.seq (.block _ (.seq _ (.block _ (.loop c)))) _))))) => c
  | _ => .skip
def envE2 (i x : Int) (b : Bool) : List V := .yld 4 :: .ptr 3 0 :: .ptr 2 0 :: .undef :: .int .i64 i :: .int .u64 x :: List.replicate 12 .undef ++ .int .u64 x :: .bool b :: List.replicate 18 .undef
theorem innerL (t : Tb) (i : Nat) (hi : i < 8) (x j : Nat) (hx : x < 2 ^ 64) (full rest : List Int) (hj : j ≤ full.length) (hd : full.drop j = (wordL x).map (fun b => ((i * 64 + b : Nat) : Int)) ++ rest) (hf : full.length ≤ 512) (env : List V) (hE : forgE env (envI i x)) (Q : X → List V → Heap → Prop)
    (hQ : ∀ (b : Bool) (j : Nat), j ≤ full.length → full.drop j = rest → Q (.exit 2) (envE2 i 0 b) (hpL t full j)) : LoopP Tryd.prog TT cIn (wpC Tryd.prog TT md0 cIn) (hpL t full j).length env (hpL t full j) Q := by
  refine LoopP.inv (md := md0) (fun k env h => ∃ (x j : Nat), k = (wordL x).length ∧ x < 2 ^ 64 ∧ j ≤ full.length ∧ full.drop j = (wordL x).map (fun b => ((i * 64 + b : Nat) : Int)) ++ rest ∧ env = envI i x ∧ h = hpL t full j) (wordL x).length ⟨envI i x, _, .same hE rfl, x, j, rfl, hx, hj, hd, rfl, rfl⟩ ?_
  clear hx hj hd hE
  rintro k _ _ ⟨x, j, rfl, hx, hj, hd, rfl, rfl⟩
  cases j with
  | zero =>
    refine ⟨fun h => ?_, fun h => ?_⟩
    · have h0 : x ≠ 0 := by rintro rfl; cases h
      obtain ⟨hw, hk⟩ := wordL_step x hx h0
      refine (tz_fn x hx h0).sem _ ?_
      generalize Go.Lib.ctz 64 x = b at hw hk
      refine ⟨fun hc => ?_, fun hc => ?_⟩
      · repeat (first | refine BCase.yes rfl ?_ | refine BCase.no rfl ?_)
        refine RoundP.intro rfl rfl (Wp.of (md := md0) tysOk ?_)
        conv => whnf
        refine Wp.of (md := md0) tysOk ?_
        repeat (first | refine BCase.yes rfl ?_ | refine BCase.no rfl ?_)
        have hlen : 1 ≤ full.length := by
          have := congrArg List.length hd
          rw [hw] at this
          simp at this
          omega
        have hd1 : full.drop 1 = (wordL (x &&& (x - 1))).map (fun b => ((i * 64 + b : Nat) : Int)) ++ rest := by
          rw [hw] at hd
          rw [← List.drop_drop (i := 1) (j := 0), hd]; rfl
        have ht : full.take 1 = [((i * 64 + b : Nat) : Int)] := by
          rw [hw] at hd
          rw [show full = full.drop 0 from rfl, hd]; rfl
        refine ⟨(wordL (x &&& (x - 1))).length, envI i (x &&& (x - 1) : Nat), hpL t full 1, by rw [hw]; exact Nat.lt_succ_self _, .same ?_ ?_, x &&& (x - 1), 1, rfl, Nat.lt_of_le_of_lt Nat.and_le_left hx, hlen, hd1, rfl, rfl⟩
        · refine ⟨.inl rfl, .inl rfl, .inl rfl, .inl rfl, .inl rfl, .inl ?_, ?_⟩
          · exact congrArg (V.int .u64) (left_eq x hx h0).symm
          · repeat (first | exact trivial | refine ⟨.inl rfl, ?_⟩ | refine ⟨.inr rfl, ?_⟩)
        · show [tB t, some (.cells 36 [V.psl 1 (colsV (full.take 1)) (.own 5)]), tB t, some (.cells 3 [.int .i64 (-1)]), R11, some (.token 1 1)] = _
          rw [ht, ← col_eq i b hi hk]
          rfl
      · exfalso
        rw [col_eq i b hi hk] at hc
        have := of_decide_eq_false hc
        omega
    · have h0 : x = 0 := by
        rcases Nat.eq_zero_or_pos x with e | e
        · exact e
        · have : (x : Int) ≠ 0 := by omega
          simp at h; exact h
      subst h0
      rw [wordL_zero] at hd
      exact hQ _ 0 hj hd
  | succ j =>
    have hlj : (colsV (full.take (j + 1))).length = j + 1 := by rw [colsV_len, List.length_take]; omega
    refine ⟨fun h => ?_, fun h => ?_⟩
    · have h0 : x ≠ 0 := by rintro rfl; cases h
      obtain ⟨hw, hk⟩ := wordL_step x hx h0
      refine (tz_fn x hx h0).sem _ ?_
      generalize Go.Lib.ctz 64 x = b at hw hk
      refine ⟨fun hc => ?_, fun hc => ?_⟩
      · repeat (first | refine BCase.yes rfl ?_ | refine BCase.no rfl ?_)
        refine RoundP.intro rfl rfl (Wp.of (md := md0) tysOk ?_)
        conv => whnf
        refine Wp.of (md := md0) tysOk ?_
        have hlen : j + 2 ≤ full.length := by
          have := congrArg List.length hd
          rw [hw] at this
          simp at this
          omega
        have hd1 : full.drop (j + 2) = (wordL (x &&& (x - 1))).map (fun b => ((i * 64 + b : Nat) : Int)) ++ rest := by
          rw [hw] at hd
          rw [← List.drop_drop (i := 1) (j := j + 1), hd]; rfl
        have ht : full.take (j + 2) = full.take (j + 1) ++ [((i * 64 + b : Nat) : Int)] := by
          rw [hw] at hd
          rw [List.take_add_one (i := j + 1)]
          have : full[j + 1]? = (full.drop (j + 1))[0]? := by rw [List.getElem?_drop]
          rw [this, hd]; rfl
        refine gdP ?_ ?_
        · show (Nat.beq 1 1 && Nat.beq 1 1 && Nat.beq (j + 1) (colsV (full.take (j + 1))).length && (Nat.blt 0 1 && Nat.blt 0 8 && Nat.ble (((colsV (full.take (j + 1))).length + 1) * (2 * 8)) 281474976710656)) = true
          rw [hlj]
          simp only [Bool.and_eq_true]
          exact ⟨⟨⟨rfl, rfl⟩, Nat.beq_refl _⟩, ⟨rfl, rfl⟩, Nat.ble_eq_true_of_le (by omega)⟩
        repeat (first | refine BCase.yes rfl ?_ | refine BCase.no rfl ?_)
        refine ⟨(wordL (x &&& (x - 1))).length, envI i (x &&& (x - 1) : Nat), hpL t full (j + 2), by rw [hw]; exact Nat.lt_succ_self _, .same ?_ ?_, x &&& (x - 1), j + 2, rfl, Nat.lt_of_le_of_lt Nat.and_le_left hx, hlen, hd1, rfl, rfl⟩
        · refine ⟨.inl rfl, .inl rfl, .inl rfl, .inl rfl, .inl rfl, .inl ?_, ?_⟩
          · exact congrArg (V.int .u64) (left_eq x hx h0).symm
          · repeat (first | exact trivial | refine ⟨.inl rfl, ?_⟩ | refine ⟨.inr rfl, ?_⟩)
        · have e1 : colsV (full.take (j + 2)) = colsV (full.take (j + 1)) ++ [[.int .i64 (IntKind.i64.wrap (IntKind.i64.wrap ((i : Int) * 64) + ((b : Nat) : Int)))]] := by
            rw [ht, col_eq i b hi hk]; simp [colsV]
          show [tB t, some (.cells 36 [V.psl 1 (colsV (full.take (j + 2))) (.own 5)]), tB t, some (.cells 3 [.int .i64 (-1)]), R11, some (.token 1 (j + 2))] = _
          rw [e1]
          exact congrArg (fun n => [tB t, some (.cells 36 [V.psl 1 (colsV (full.take (j + 1)) ++ [[.int .i64 (IntKind.i64.wrap (IntKind.i64.wrap ((i : Int) * 64) + ((b : Nat) : Int)))]]) (.own 5)]), tB t, some (.cells 3 [.int .i64 (-1)]), R11, some (.token 1 n)]) (show j + 2 = (colsV (full.take (j + 1))).length + 1 by rw [hlj])
      · exfalso
        rw [col_eq i b hi hk] at hc
        have := of_decide_eq_false hc
        omega
    · have h0 : x = 0 := by
        rcases Nat.eq_zero_or_pos x with e | e
        · exact e
        · have : (x : Int) ≠ 0 := by omega
          simp at h; exact h
      subst h0
      rw [wordL_zero] at hd
      exact hQ _ (j + 1) hj hd

theorem list_fn (t : Tb) (ht : t.ok) : Fn Tryd.prog 11 [t.v] (.psl 1 (colsV t.stops) .any) := by
  refine ⟨rfl, rfl, Sem.res (Sem.of_body tysOk md0 Tryd.func11 rfl rfl ?_)⟩
  refine ⟨fun h => ?_, fun h => ?_⟩
  · have hz : t.stops = [] := by
      simp only [Bool.and_eq_true, beq_iff_eq, and_true] at h
      obtain ⟨h0, h1, h2, h3, h4, h5, h6, h7⟩ := h
      unfold Tb.stops
      simp only [stopsN]
      rw [show t.w 0 = 0 by omega, show t.w 1 = 0 by omega, show t.w 2 = 0 by omega, show t.w 3 = 0 by omega, show t.w 4 = 0 by omega, show t.w 5 = 0 by omega, show t.w 6 = 0 by omega, show t.w 7 = 0 by omega, wordL_zero]
      rfl
    rw [hz]
    exact ⟨_, .inr (.inr (.inr ⟨rfl, 1, rfl⟩)), rfl⟩
  · refine Sem.of_body tysOk md0 Tryd.func26 rfl rfl ?_
    refine RangeP.fgt envR11 (by unfold envR11; repeat (first | exact trivial | refine ⟨.inl rfl, ?_⟩ | refine ⟨.inr rfl, ?_⟩)) ?_
    refine RangeP.intro rfl rfl ?_
    refine Sem.of_body tysOk md0 Tryd.func32 rfl rfl ?_
    have hfl : t.stops.length ≤ 512 := stopsN_len t.w 8 0
    refine LoopP.inv (md := md0) (fun k env h => ∃ (i j : Nat), k = 8 - i ∧ i ≤ 8 ∧ j ≤ t.stops.length ∧ t.stops.drop j = stopsN t.w i (8 - i) ∧ env = envO i ∧ h = hpL t t.stops j) 8 ⟨envO 0, _, .same (by repeat (first | exact trivial | refine ⟨.inl rfl, ?_⟩ | refine ⟨.inr rfl, ?_⟩)) rfl, 0, 0, rfl, Nat.zero_le _, Nat.zero_le _, rfl, rfl, rfl⟩ ?_
    rintro k _ _ ⟨i, j, rfl, hi8, hjl, hdr, rfl, rfl⟩
    cases j with
    | zero =>
      refine ⟨fun h => ?_, fun h => ?_⟩
      · have hi : i < 8 := by have := of_decide_eq_true h; omega
        obtain ⟨n, hn⟩ : ∃ n, 8 - i = n + 1 := ⟨7 - i, by omega⟩
        rw [hn] at hdr
        have hn' : 8 - (i + 1) = n := by omega
        rcases split8 hi with rfl | rfl | rfl | rfl | rfl | rfl | rfl | rfl
        · conv => whnf
          refine innerL t 0 hi (t.w 0) 0 (ht.w 0) t.stops _ hjl hdr hfl _ (by repeat (first | exact trivial | refine ⟨.inl rfl, ?_⟩ | refine ⟨.inr rfl, ?_⟩)) _ fun b j2 hj2 hd2 => ?_
          cases j2 with
          | zero => exact ⟨7, envO 1, hpL t t.stops 0, by decide, .same (by repeat (first | exact trivial | refine ⟨.inl rfl, ?_⟩ | refine ⟨.inr rfl, ?_⟩)) rfl, 1, 0, rfl, by decide, hj2, by rw [hn']; exact hd2, rfl, rfl⟩
          | succ j2 => exact ⟨7, envO 1, hpL t t.stops (j2 + 1), by decide, .same (by repeat (first | exact trivial | refine ⟨.inl rfl, ?_⟩ | refine ⟨.inr rfl, ?_⟩)) rfl, 1, j2 + 1, rfl, by decide, hj2, by rw [hn']; exact hd2, rfl, rfl⟩
        · conv => whnf
          refine innerL t 1 hi (t.w 1) 0 (ht.w 1) t.stops _ hjl hdr hfl _ (by repeat (first | exact trivial | refine ⟨.inl rfl, ?_⟩ | refine ⟨.inr rfl, ?_⟩)) _ fun b j2 hj2 hd2 => ?_
          cases j2 with
          | zero => exact ⟨6, envO 2, hpL t t.stops 0, by decide, .same (by repeat (first | exact trivial | refine ⟨.inl rfl, ?_⟩ | refine ⟨.inr rfl, ?_⟩)) rfl, 2, 0, rfl, by decide, hj2, by rw [hn']; exact hd2, rfl, rfl⟩
          | succ j2 => exact ⟨6, envO 2, hpL t t.stops (j2 + 1), by decide, .same (by repeat (first | exact trivial | refine ⟨.inl rfl, ?_⟩ | refine ⟨.inr rfl, ?_⟩)) rfl, 2, j2 + 1, rfl, by decide, hj2, by rw [hn']; exact hd2, rfl, rfl⟩
        · conv => whnf
          refine innerL t 2 hi (t.w 2) 0 (ht.w 2) t.stops _ hjl hdr hfl _ (by repeat (first | exact trivial | refine ⟨.inl rfl, ?_⟩ | refine ⟨.inr rfl, ?_⟩)) _ fun b j2 hj2 hd2 => ?_
          cases j2 with
          | zero => exact ⟨5, envO 3, hpL t t.stops 0, by decide, .same (by repeat (first | exact trivial | refine ⟨.inl rfl, ?_⟩ | refine ⟨.inr rfl, ?_⟩)) rfl, 3, 0, rfl, by decide, hj2, by rw [hn']; exact hd2, rfl, rfl⟩
          | succ j2 => exact ⟨5, envO 3, hpL t t.stops (j2 + 1), by decide, .same (by repeat (first | exact trivial | refine ⟨.inl rfl, ?_⟩ | refine ⟨.inr rfl, ?_⟩)) rfl, 3, j2 + 1, rfl, by decide, hj2, by rw [hn']; exact hd2, rfl, rfl⟩
        · conv => whnf
          refine innerL t 3 hi (t.w 3) 0 (ht.w 3) t.stops _ hjl hdr hfl _ (by repeat (first | exact trivial | refine ⟨.inl rfl, ?_⟩ | refine ⟨.inr rfl, ?_⟩)) _ fun b j2 hj2 hd2 => ?_
          cases j2 with
          | zero => exact ⟨4, envO 4, hpL t t.stops 0, by decide, .same (by repeat (first | exact trivial | refine ⟨.inl rfl, ?_⟩ | refine ⟨.inr rfl, ?_⟩)) rfl, 4, 0, rfl, by decide, hj2, by rw [hn']; exact hd2, rfl, rfl⟩
          | succ j2 => exact ⟨4, envO 4, hpL t t.stops (j2 + 1), by decide, .same (by repeat (first | exact trivial | refine ⟨.inl rfl, ?_⟩ | refine ⟨.inr rfl, ?_⟩)) rfl, 4, j2 + 1, rfl, by decide, hj2, by rw [hn']; exact hd2, rfl, rfl⟩
        · conv => whnf
          refine innerL t 4 hi (t.w 4) 0 (ht.w 4) t.stops _ hjl hdr hfl _ (by repeat (first | exact trivial | refine ⟨.inl rfl, ?_⟩ | refine ⟨.inr rfl, ?_⟩)) _ fun b j2 hj2 hd2 => ?_
          cases j2 with
          | zero => exact ⟨3, envO 5, hpL t t.stops 0, by decide, .same (by repeat (first | exact trivial | refine ⟨.inl rfl, ?_⟩ | refine ⟨.inr rfl, ?_⟩)) rfl, 5, 0, rfl, by decide, hj2, by rw [hn']; exact hd2, rfl, rfl⟩
          | succ j2 => exact ⟨3, envO 5, hpL t t.stops (j2 + 1), by decide, .same (by repeat (first | exact trivial | refine ⟨.inl rfl, ?_⟩ | refine ⟨.inr rfl, ?_⟩)) rfl, 5, j2 + 1, rfl, by decide, hj2, by rw [hn']; exact hd2, rfl, rfl⟩
        · conv => whnf
          refine innerL t 5 hi (t.w 5) 0 (ht.w 5) t.stops _ hjl hdr hfl _ (by repeat (first | exact trivial | refine ⟨.inl rfl, ?_⟩ | refine ⟨.inr rfl, ?_⟩)) _ fun b j2 hj2 hd2 => ?_
          cases j2 with
          | zero => exact ⟨2, envO 6, hpL t t.stops 0, by decide, .same (by repeat (first | exact trivial | refine ⟨.inl rfl, ?_⟩ | refine ⟨.inr rfl, ?_⟩)) rfl, 6, 0, rfl, by decide, hj2, by rw [hn']; exact hd2, rfl, rfl⟩
          | succ j2 => exact ⟨2, envO 6, hpL t t.stops (j2 + 1), by decide, .same (by repeat (first | exact trivial | refine ⟨.inl rfl, ?_⟩ | refine ⟨.inr rfl, ?_⟩)) rfl, 6, j2 + 1, rfl, by decide, hj2, by rw [hn']; exact hd2, rfl, rfl⟩
        · conv => whnf
          refine innerL t 6 hi (t.w 6) 0 (ht.w 6) t.stops _ hjl hdr hfl _ (by repeat (first | exact trivial | refine ⟨.inl rfl, ?_⟩ | refine ⟨.inr rfl, ?_⟩)) _ fun b j2 hj2 hd2 => ?_
          cases j2 with
          | zero => exact ⟨1, envO 7, hpL t t.stops 0, by decide, .same (by repeat (first | exact trivial | refine ⟨.inl rfl, ?_⟩ | refine ⟨.inr rfl, ?_⟩)) rfl, 7, 0, rfl, by decide, hj2, by rw [hn']; exact hd2, rfl, rfl⟩
          | succ j2 => exact ⟨1, envO 7, hpL t t.stops (j2 + 1), by decide, .same (by repeat (first | exact trivial | refine ⟨.inl rfl, ?_⟩ | refine ⟨.inr rfl, ?_⟩)) rfl, 7, j2 + 1, rfl, by decide, hj2, by rw [hn']; exact hd2, rfl, rfl⟩
        · conv => whnf
          refine innerL t 7 hi (t.w 7) 0 (ht.w 7) t.stops _ hjl hdr hfl _ (by repeat (first | exact trivial | refine ⟨.inl rfl, ?_⟩ | refine ⟨.inr rfl, ?_⟩)) _ fun b j2 hj2 hd2 => ?_
          cases j2 with
          | zero => exact ⟨0, envO 8, hpL t t.stops 0, by decide, .same (by repeat (first | exact trivial | refine ⟨.inl rfl, ?_⟩ | refine ⟨.inr rfl, ?_⟩)) rfl, 8, 0, rfl, by decide, hj2, by rw [hn']; exact hd2, rfl, rfl⟩
          | succ j2 => exact ⟨0, envO 8, hpL t t.stops (j2 + 1), by decide, .same (by repeat (first | exact trivial | refine ⟨.inl rfl, ?_⟩ | refine ⟨.inr rfl, ?_⟩)) rfl, 8, j2 + 1, rfl, by decide, hj2, by rw [hn']; exact hd2, rfl, rfl⟩
      · have hi : i = 8 := by have := of_decide_eq_false h; omega
        subst hi
        have hz : t.stops = [] := by rw [show t.stops = t.stops.drop 0 from rfl, hdr]; rfl
        rw [hz]
        exact ⟨_, .inr (.inr (.inr ⟨rfl, 1, rfl⟩)), rfl⟩
    | succ j =>
      refine ⟨fun h => ?_, fun h => ?_⟩
      · have hi : i < 8 := by have := of_decide_eq_true h; omega
        obtain ⟨n, hn⟩ : ∃ n, 8 - i = n + 1 := ⟨7 - i, by omega⟩
        rw [hn] at hdr
        have hn' : 8 - (i + 1) = n := by omega
        rcases split8 hi with rfl | rfl | rfl | rfl | rfl | rfl | rfl | rfl
        · conv => whnf
          refine innerL t 0 hi (t.w 0) (j + 1) (ht.w 0) t.stops _ hjl hdr hfl _ (by repeat (first | exact trivial | refine ⟨.inl rfl, ?_⟩ | refine ⟨.inr rfl, ?_⟩)) _ fun b j2 hj2 hd2 => ?_
          cases j2 with
          | zero => exact ⟨7, envO 1, hpL t t.stops 0, by decide, .same (by repeat (first | exact trivial | refine ⟨.inl rfl, ?_⟩ | refine ⟨.inr rfl, ?_⟩)) rfl, 1, 0, rfl, by decide, hj2, by rw [hn']; exact hd2, rfl, rfl⟩
          | succ j2 => exact ⟨7, envO 1, hpL t t.stops (j2 + 1), by decide, .same (by repeat (first | exact trivial | refine ⟨.inl rfl, ?_⟩ | refine ⟨.inr rfl, ?_⟩)) rfl, 1, j2 + 1, rfl, by decide, hj2, by rw [hn']; exact hd2, rfl, rfl⟩
        · conv => whnf
          refine innerL t 1 hi (t.w 1) (j + 1) (ht.w 1) t.stops _ hjl hdr hfl _ (by repeat (first | exact trivial | refine ⟨.inl rfl, ?_⟩ | refine ⟨.inr rfl, ?_⟩)) _ fun b j2 hj2 hd2 => ?_
          cases j2 with
          | zero => exact ⟨6, envO 2, hpL t t.stops 0, by decide, .same (by repeat (first | exact trivial | refine ⟨.inl rfl, ?_⟩ | refine ⟨.inr rfl, ?_⟩)) rfl, 2, 0, rfl, by decide, hj2, by rw [hn']; exact hd2, rfl, rfl⟩
          | succ j2 => exact ⟨6, envO 2, hpL t t.stops (j2 + 1), by decide, .same (by repeat (first | exact trivial | refine ⟨.inl rfl, ?_⟩ | refine ⟨.inr rfl, ?_⟩)) rfl, 2, j2 + 1, rfl, by decide, hj2, by rw [hn']; exact hd2, rfl, rfl⟩
        · conv => whnf
          refine innerL t 2 hi (t.w 2) (j + 1) (ht.w 2) t.stops _ hjl hdr hfl _ (by repeat (first | exact trivial | refine ⟨.inl rfl, ?_⟩ | refine ⟨.inr rfl, ?_⟩)) _ fun b j2 hj2 hd2 => ?_
          cases j2 with
          | zero => exact ⟨5, envO 3, hpL t t.stops 0, by decide, .same (by repeat (first | exact trivial | refine ⟨.inl rfl, ?_⟩ | refine ⟨.inr rfl, ?_⟩)) rfl, 3, 0, rfl, by decide, hj2, by rw [hn']; exact hd2, rfl, rfl⟩
          | succ j2 => exact ⟨5, envO 3, hpL t t.stops (j2 + 1), by decide, .same (by repeat (first | exact trivial | refine ⟨.inl rfl, ?_⟩ | refine ⟨.inr rfl, ?_⟩)) rfl, 3, j2 + 1, rfl, by decide, hj2, by rw [hn']; exact hd2, rfl, rfl⟩
        · conv => whnf
          refine innerL t 3 hi (t.w 3) (j + 1) (ht.w 3) t.stops _ hjl hdr hfl _ (by repeat (first | exact trivial | refine ⟨.inl rfl, ?_⟩ | refine ⟨.inr rfl, ?_⟩)) _ fun b j2 hj2 hd2 => ?_
          cases j2 with
          | zero => exact ⟨4, envO 4, hpL t t.stops 0, by decide, .same (by repeat (first | exact trivial | refine ⟨.inl rfl, ?_⟩ | refine ⟨.inr rfl, ?_⟩)) rfl, 4, 0, rfl, by decide, hj2, by rw [hn']; exact hd2, rfl, rfl⟩
          | succ j2 => exact ⟨4, envO 4, hpL t t.stops (j2 + 1), by decide, .same (by repeat (first | exact trivial | refine ⟨.inl rfl, ?_⟩ | refine ⟨.inr rfl, ?_⟩)) rfl, 4, j2 + 1, rfl, by decide, hj2, by rw [hn']; exact hd2, rfl, rfl⟩
        · conv => whnf
          refine innerL t 4 hi (t.w 4) (j + 1) (ht.w 4) t.stops _ hjl hdr hfl _ (by repeat (first | exact trivial | refine ⟨.inl rfl, ?_⟩ | refine ⟨.inr rfl, ?_⟩)) _ fun b j2 hj2 hd2 => ?_
          cases j2 with
          | zero => exact ⟨3, envO 5, hpL t t.stops 0, by decide, .same (by repeat (first | exact trivial | refine ⟨.inl rfl, ?_⟩ | refine ⟨.inr rfl, ?_⟩)) rfl, 5, 0, rfl, by decide, hj2, by rw [hn']; exact hd2, rfl, rfl⟩
          | succ j2 => exact ⟨3, envO 5, hpL t t.stops (j2 + 1), by decide, .same (by repeat (first | exact trivial | refine ⟨.inl rfl, ?_⟩ | refine ⟨.inr rfl, ?_⟩)) rfl, 5, j2 + 1, rfl, by decide, hj2, by rw [hn']; exact hd2, rfl, rfl⟩
        · conv => whnf
          refine innerL t 5 hi (t.w 5) (j + 1) (ht.w 5) t.stops _ hjl hdr hfl _ (by repeat (first | exact trivial | refine ⟨.inl rfl, ?_⟩ | refine ⟨.inr rfl, ?_⟩)) _ fun b j2 hj2 hd2 => ?_
          cases j2 with
          | zero => exact ⟨2, envO 6, hpL t t.stops 0, by decide, .same (by repeat (first | exact trivial | refine ⟨.inl rfl, ?_⟩ | refine ⟨.inr rfl, ?_⟩)) rfl, 6, 0, rfl, by decide, hj2, by rw [hn']; exact hd2, rfl, rfl⟩
          | succ j2 => exact ⟨2, envO 6, hpL t t.stops (j2 + 1), by decide, .same (by repeat (first | exact trivial | refine ⟨.inl rfl, ?_⟩ | refine ⟨.inr rfl, ?_⟩)) rfl, 6, j2 + 1, rfl, by decide, hj2, by rw [hn']; exact hd2, rfl, rfl⟩
        · conv => whnf
          refine innerL t 6 hi (t.w 6) (j + 1) (ht.w 6) t.stops _ hjl hdr hfl _ (by repeat (first | exact trivial | refine ⟨.inl rfl, ?_⟩ | refine ⟨.inr rfl, ?_⟩)) _ fun b j2 hj2 hd2 => ?_
          cases j2 with
          | zero => exact ⟨1, envO 7, hpL t t.stops 0, by decide, .same (by repeat (first | exact trivial | refine ⟨.inl rfl, ?_⟩ | refine ⟨.inr rfl, ?_⟩)) rfl, 7, 0, rfl, by decide, hj2, by rw [hn']; exact hd2, rfl, rfl⟩
          | succ j2 => exact ⟨1, envO 7, hpL t t.stops (j2 + 1), by decide, .same (by repeat (first | exact trivial | refine ⟨.inl rfl, ?_⟩ | refine ⟨.inr rfl, ?_⟩)) rfl, 7, j2 + 1, rfl, by decide, hj2, by rw [hn']; exact hd2, rfl, rfl⟩
        · conv => whnf
          refine innerL t 7 hi (t.w 7) (j + 1) (ht.w 7) t.stops _ hjl hdr hfl _ (by repeat (first | exact trivial | refine ⟨.inl rfl, ?_⟩ | refine ⟨.inr rfl, ?_⟩)) _ fun b j2 hj2 hd2 => ?_
          cases j2 with
          | zero => exact ⟨0, envO 8, hpL t t.stops 0, by decide, .same (by repeat (first | exact trivial | refine ⟨.inl rfl, ?_⟩ | refine ⟨.inr rfl, ?_⟩)) rfl, 8, 0, rfl, by decide, hj2, by rw [hn']; exact hd2, rfl, rfl⟩
          | succ j2 => exact ⟨0, envO 8, hpL t t.stops (j2 + 1), by decide, .same (by repeat (first | exact trivial | refine ⟨.inl rfl, ?_⟩ | refine ⟨.inr rfl, ?_⟩)) rfl, 8, j2 + 1, rfl, by decide, hj2, by rw [hn']; exact hd2, rfl, rfl⟩
      · have hi : i = 8 := by have := of_decide_eq_false h; omega
        subst hi
        have hz : t.stops.take (j + 1) = t.stops := by
          have := congrArg List.length hdr
          simp [stopsN] at this
          exact List.take_of_length_le (by omega)
        refine ⟨_, .inr (.inr (.inl ⟨_, _, _, rfl, rfl⟩)), ?_⟩
        show V.psl 1 (colsV (t.stops.take (j + 1))) .any = _
        rw [hz]
end Go.Cx
namespace Go.Cx
open Go.Proofs
set_option maxRecDepth 100000
set_option maxHeartbeats 10000000
theorem Sem.less {P : Program} {g : FuncId} {args : List V} {h : Heap} {K : V → Heap → Prop} (k : Sem P g args h fun v h' => ∃ h2, dropH h' h2 ∧ K v h2) : Sem P g args h K :=
  ⟨fun φ μ B w cargs hB r ha => (k.run φ μ B w cargs hB r ha).mono fun _ _ ⟨v, h', φ', μ', cv, e1, ⟨h2, hd, hK⟩, hv, hr, rest⟩ => ⟨v, h2, φ', μ', cv, e1, hK, hv, hr.less hd, rest⟩⟩
/-- The n-th of a list; another one, if there are not as many. -/
def nthL : List Int → Int → Int → Int
  | [], _, o => o
  | c :: l, n, o => if n = 1 then c else nthL l (n - 1) o
def colB (c : Int) : Option Blk := some (.cells 3 [.int .i64 c])
noncomputable def rf28 : Code × Code := match Tryd.f28.body with
  | some (.seq _ (.seq (.seq _ (.block _ (.rangeFunc _ _ asg bo))) _)) => (asg, bo)
  | _ => (.skip, .skip)
def envR28 (f : Nat) (o : Int) : List V := .undef :: .undef :: .int .i64 o :: .undef :: .ptr 3 0 :: .undef :: .ptr 4 0 :: .undef :: .fn (.func f) [] [.ptr 2 0, .ptr 1 0] :: List.replicate 7 .undef
noncomputable def RN (f : Nat) (o : Int) (st : LoopState) (pd : Option Code) : Option Blk := lB (envR28 f o) [9] rf28.1 rf28.2 st pd
noncomputable def hpN (b0 : Option Blk) (f : Nat) (t : Tb) (col o n : Int) : Heap := [b0, tB t, colB col, colB n, colB 0, RN f o .ready none]
noncomputable def hpD (b0 : Option Blk) (f : Nat) (t : Tb) (col o z r : Int) : Heap := [b0, tB t, colB col, colB z, colB r, RN f o .done (some .ret)]
def envO5 (i : Int) : List V := .yld 5 :: .ptr 2 0 :: .ptr 1 0 :: .undef :: .int .i64 i :: List.replicate 33 .undef
def envI5 (i x : Int) : List V := .yld 5 :: .ptr 2 0 :: .ptr 1 0 :: .undef :: .int .i64 i :: .int .u64 x :: List.replicate 32 .undef
def envE5 (i x : Int) (b : Bool) : List V := .yld 5 :: .ptr 2 0 :: .ptr 1 0 :: .undef :: .int .i64 i :: .int .u64 x :: List.replicate 12 .undef ++ .int .u64 x :: .bool b :: List.replicate 18 .undef
def above (col : Int) (l : List Int) : List Int := l.filter fun c => decide (c > col)
noncomputable def cIn' : Code := match Tryd.f32.body with
  | some (.seq _ (.block _ (.loop (.seq _ (.seq (.block _ (.seq _ (.block _ (.loop c)))) _))))) => c
  | _ => .skip
theorem innerN (t : Tb) (col o : Int) (i : Nat) (hi : i < 8) (x : Nat) (n : Int) (hx : x < 2 ^ 64) (rest : List Int) (r : Int) (hn : 1 ≤ n) (hn2 : n < 1000000000)
    (hd : nthL (above col ((wordL x).map (fun b => ((i * 64 + b : Nat) : Int)) ++ rest)) n o = r) (env : List V) (hE : forgE env (envI5 i x)) (Q : X → List V → Heap → Prop)
    (hQ : ∀ (b : Bool) (n : Int), 1 ≤ n → n < 1000000000 → nthL (above col rest) n o = r → Q (.exit 2) (envE5 i 0 b) (hpN none 32 t col o n))
    (hR : ∀ (z : Int) (env : List V), Q .ret env (hpD none 32 t col o z r)) : LoopP Tryd.prog TT cIn' (wpC Tryd.prog TT md0 cIn') 6 env (hpN none 32 t col o n) Q := by
  refine LoopP.inv (md := md0) (fun k env h => ∃ (x : Nat) (n : Int), k = (wordL x).length ∧ x < 2 ^ 64 ∧ 1 ≤ n ∧ n < 1000000000 ∧ nthL (above col ((wordL x).map (fun b => ((i * 64 + b : Nat) : Int)) ++ rest)) n o = r ∧ env = envI5 i x ∧ h = hpN none 32 t col o n) (wordL x).length ⟨envI5 i x, _, .same hE rfl, x, n, rfl, hx, hn, hn2, hd, rfl, rfl⟩ ?_
  clear hx hn hn2 hd hE
  rintro k _ _ ⟨x, n, rfl, hx, hn, hn2, hd, rfl, rfl⟩
  refine ⟨fun h => ?_, fun h => ?_⟩
  · have h0 : x ≠ 0 := by rintro rfl; cases h
    obtain ⟨hw, hk⟩ := wordL_step x hx h0
    refine (tz_fn x hx h0).sem _ ?_
    generalize Go.Lib.ctz 64 x = b at hw hk
    rw [hw, List.map_cons, List.cons_append] at hd
    have hce := col_eq i b hi hk
    refine ⟨fun hc => ?_, fun hc => ?_⟩
    · repeat (first | refine BCase.yes rfl ?_ | refine BCase.no rfl ?_)
      rw [hce] at hc
      have hc' := of_decide_eq_true hc
      rw [show above col (((i * 64 + b : Nat) : Int) :: ((wordL (x &&& (x - 1))).map (fun b => ((i * 64 + b : Nat) : Int)) ++ rest)) = ((i * 64 + b : Nat) : Int) :: above col ((wordL (x &&& (x - 1))).map (fun b => ((i * 64 + b : Nat) : Int)) ++ rest) from List.filter_cons_of_pos (by simpa using hc')] at hd
      refine RoundP.intro rfl rfl (Wp.of (md := md0) tysOk ?_)
      conv => whnf
      refine Wp.of (md := md0) tysOk ?_
      refine ⟨fun h1 => ?_, fun h1 => ?_⟩
      · repeat (first | refine BCase.yes rfl ?_ | refine BCase.no rfl ?_)
        rw [wr64 (n := n - 1) (by omega) (by omega)] at h1
        have h1' : n - 1 = 0 := by simpa using h1
        rw [nthL, if_pos (by omega)] at hd
        rw [hce, hd]
        exact hR _ _
      · repeat (first | refine BCase.yes rfl ?_ | refine BCase.no rfl ?_)
        rw [wr64 (n := n - 1) (by omega) (by omega)] at h1
        have h1' : n - 1 ≠ 0 := by simpa using h1
        rw [nthL, if_neg (by omega)] at hd
        refine ⟨(wordL (x &&& (x - 1))).length, envI5 i (x &&& (x - 1) : Nat), hpN none 32 t col o (n - 1), by rw [hw]; exact Nat.lt_succ_self _, .same ?_ ?_, x &&& (x - 1), n - 1, rfl, Nat.lt_of_le_of_lt Nat.and_le_left hx, by omega, by omega, hd, rfl, rfl⟩
        · refine ⟨.inl rfl, .inl rfl, .inl rfl, .inl rfl, .inl rfl, .inl ?_, ?_⟩
          · exact congrArg (V.int .u64) (left_eq x hx h0).symm
          · repeat (first | exact trivial | refine ⟨.inl rfl, ?_⟩ | refine ⟨.inr rfl, ?_⟩)
        · exact congrArg (fun z => [none, tB t, colB col, colB z, colB 0, RN 32 o .ready none]) (wr64 (n := n - 1) (by omega) (by omega)).symm
    · repeat (first | refine BCase.yes rfl ?_ | refine BCase.no rfl ?_)
      rw [hce] at hc
      have hc' := of_decide_eq_false hc
      rw [show above col (((i * 64 + b : Nat) : Int) :: ((wordL (x &&& (x - 1))).map (fun b => ((i * 64 + b : Nat) : Int)) ++ rest)) = above col ((wordL (x &&& (x - 1))).map (fun b => ((i * 64 + b : Nat) : Int)) ++ rest) from List.filter_cons_of_neg (by simpa using hc')] at hd
      refine ⟨(wordL (x &&& (x - 1))).length, envI5 i (x &&& (x - 1) : Nat), hpN none 32 t col o n, by rw [hw]; exact Nat.lt_succ_self _, .same ?_ rfl, x &&& (x - 1), n, rfl, Nat.lt_of_le_of_lt Nat.and_le_left hx, hn, hn2, hd, rfl, rfl⟩
      refine ⟨.inl rfl, .inl rfl, .inl rfl, .inl rfl, .inl rfl, .inl ?_, ?_⟩
      · exact congrArg (V.int .u64) (left_eq x hx h0).symm
      · repeat (first | exact trivial | refine ⟨.inl rfl, ?_⟩ | refine ⟨.inr rfl, ?_⟩)
  · have h0 : x = 0 := by
      rcases Nat.eq_zero_or_pos x with e | e
      · exact e
      · have : (x : Int) ≠ 0 := by omega
        simp at h; exact h
    subst h0
    rw [wordL_zero] at hd
    exact hQ _ n hn hn2 hd
theorem above_low (col : Int) (w : Nat → Nat) : ∀ (m i n : Nat), (((i + m) * 64 : Nat) : Int) ≤ col + 1 → above col (stopsN w i (m + n)) = above col (stopsN w (i + m) n)
  | 0, i, n, _ => by rw [Nat.zero_add]; rfl
  | m + 1, i, n, h => by
    rw [show m + 1 + n = (m + n) + 1 by omega, stopsN]
    have h1 : above col ((wordL (w i)).map fun b => ((i * 64 + b : Nat) : Int)) = [] := by
      unfold above
      rw [List.filter_eq_nil_iff]
      intro c hc
      obtain ⟨b, hb, rfl⟩ := List.mem_map.1 hc
      have hb64 : b < 64 := by
        unfold wordL at hb
        exact List.mem_range.1 (List.mem_filter.1 hb).1
      simp only [decide_eq_true_eq]
      omega
    have h2 := above_low col w m (i + 1) n (by rw [show i + 1 + m = i + (m + 1) by omega]; exact h)
    unfold above at h1 h2 ⊢
    rw [List.filter_append, h1, List.nil_append, h2, show i + 1 + m = i + (m + 1) by omega]
theorem start_word (col : Int) (hcol : col < 512) : ∃ i0 : Nat, i0 ≤ 7 ∧ IntKind.i64.wrap ((if col > 0 then col else 0).tdiv 64) = (i0 : Int) ∧ (i0 = 0 ∨ ((i0 * 64 : Nat) : Int) ≤ col + 1) := by
  split
  · obtain ⟨c, rfl⟩ : ∃ c : Nat, col = (c : Int) := ⟨col.toNat, by omega⟩
    exact ⟨c / 64, by omega, td64 c (by omega), .inr (by omega)⟩
  · exact ⟨0, by omega, rfl, .inl rfl⟩
theorem nthR_sem (t : Tb) (ht : t.ok) (col n o : Int) (hcol : col < 512) (hn : 1 ≤ n) (hn2 : n < 1000000000) : Sem Tryd.prog 28 [.fn (.func 32) [] [.ptr 2 0, .ptr 1 0], .int .i64 n, .int .i64 o] [none, tB t, colB col]
    fun v h' => v = .int .i64 (nthL (above col t.stops) n o) ∧ h' = [none, tB t, colB col, none, none, none] := by
  obtain ⟨i0, hi07, hi0, hi0c⟩ := start_word col hcol
  have hr0 : nthL (above col (stopsN t.w i0 (8 - i0))) n o = nthL (above col t.stops) n o := by
    rcases hi0c with rfl | h
    · rfl
    · have := above_low col t.w i0 0 (8 - i0) (by rw [Nat.zero_add]; exact h)
      rw [show i0 + (8 - i0) = 8 by omega, Nat.zero_add] at this
      unfold Tb.stops
      rw [this]
  generalize nthL (above col t.stops) n o = r at hr0
  refine Sem.less (Sem.of_body tysOk md0 Tryd.func28 rfl rfl ?_)
  refine RangeP.fgt (envR28 32 o) (by unfold envR28; repeat (first | exact trivial | refine ⟨.inl rfl, ?_⟩ | refine ⟨.inr rfl, ?_⟩)) ?_
  refine RangeP.intro rfl rfl ?_
  refine Sem.of_body tysOk md0 Tryd.func32 rfl rfl ?_
  refine LoopP.inv (md := md0) (fun k env h => ∃ (i : Nat) (n : Int), k = 8 - i ∧ i ≤ 8 ∧ 1 ≤ n ∧ n < 1000000000 ∧ nthL (above col (stopsN t.w i (8 - i))) n o = r ∧ env = envO5 i ∧ h = hpN none 32 t col o n) (8 - i0) ⟨envO5 i0, _, .same ?_ rfl, i0, n, rfl, by omega, hn, hn2, hr0, rfl, rfl⟩ ?_
  · rw [← hi0]
    repeat (first | exact trivial | refine ⟨.inl rfl, ?_⟩ | refine ⟨.inr rfl, ?_⟩)
  clear hr0 hn hn2
  rintro k _ _ ⟨i, n, rfl, hi8, hn, hn2, hd, rfl, rfl⟩
  refine ⟨fun h => ?_, fun h => ?_⟩
  · have hi : i < 8 := by have := of_decide_eq_true h; omega
    obtain ⟨m, hm⟩ : ∃ m, 8 - i = m + 1 := ⟨7 - i, by omega⟩
    rw [hm] at hd
    have hm' : 8 - (i + 1) = m := by omega
    rcases split8 hi with rfl | rfl | rfl | rfl | rfl | rfl | rfl | rfl
    · conv => whnf
      refine innerN t col o 0 hi (t.w 0) n (ht.w 0) _ r hn hn2 hd _ (by repeat (first | exact trivial | refine ⟨.inl rfl, ?_⟩ | refine ⟨.inr rfl, ?_⟩)) _ (fun b n2 h1 h2 h3 => ?_) (fun z env => ?_)
      · exact ⟨7, envO5 1, hpN none 32 t col o n2, by decide, .same (by repeat (first | exact trivial | refine ⟨.inl rfl, ?_⟩ | refine ⟨.inr rfl, ?_⟩)) rfl, 1, n2, rfl, by decide, h1, h2, by rw [hm']; exact h3, rfl, rfl⟩
      · exact ⟨[none, tB t, colB col, none, none, none], ⟨.inl rfl, .inl rfl, .inl rfl, .inr rfl, .inr rfl, .inl rfl, trivial⟩, rfl, rfl⟩
    · conv => whnf
      refine innerN t col o 1 hi (t.w 1) n (ht.w 1) _ r hn hn2 hd _ (by repeat (first | exact trivial | refine ⟨.inl rfl, ?_⟩ | refine ⟨.inr rfl, ?_⟩)) _ (fun b n2 h1 h2 h3 => ?_) (fun z env => ?_)
      · exact ⟨6, envO5 2, hpN none 32 t col o n2, by decide, .same (by repeat (first | exact trivial | refine ⟨.inl rfl, ?_⟩ | refine ⟨.inr rfl, ?_⟩)) rfl, 2, n2, rfl, by decide, h1, h2, by rw [hm']; exact h3, rfl, rfl⟩
      · exact ⟨[none, tB t, colB col, none, none, none], ⟨.inl rfl, .inl rfl, .inl rfl, .inr rfl, .inr rfl, .inl rfl, trivial⟩, rfl, rfl⟩
    · conv => whnf
      refine innerN t col o 2 hi (t.w 2) n (ht.w 2) _ r hn hn2 hd _ (by repeat (first | exact trivial | refine ⟨.inl rfl, ?_⟩ | refine ⟨.inr rfl, ?_⟩)) _ (fun b n2 h1 h2 h3 => ?_) (fun z env => ?_)
      · exact ⟨5, envO5 3, hpN none 32 t col o n2, by decide, .same (by repeat (first | exact trivial | refine ⟨.inl rfl, ?_⟩ | refine ⟨.inr rfl, ?_⟩)) rfl, 3, n2, rfl, by decide, h1, h2, by rw [hm']; exact h3, rfl, rfl⟩
      · exact ⟨[none, tB t, colB col, none, none, none], ⟨.inl rfl, .inl rfl, .inl rfl, .inr rfl, .inr rfl, .inl rfl, trivial⟩, rfl, rfl⟩
    · conv => whnf
      refine innerN t col o 3 hi (t.w 3) n (ht.w 3) _ r hn hn2 hd _ (by repeat (first | exact trivial | refine ⟨.inl rfl, ?_⟩ | refine ⟨.inr rfl, ?_⟩)) _ (fun b n2 h1 h2 h3 => ?_) (fun z env => ?_)
      · exact ⟨4, envO5 4, hpN none 32 t col o n2, by decide, .same (by repeat (first | exact trivial | refine ⟨.inl rfl, ?_⟩ | refine ⟨.inr rfl, ?_⟩)) rfl, 4, n2, rfl, by decide, h1, h2, by rw [hm']; exact h3, rfl, rfl⟩
      · exact ⟨[none, tB t, colB col, none, none, none], ⟨.inl rfl, .inl rfl, .inl rfl, .inr rfl, .inr rfl, .inl rfl, trivial⟩, rfl, rfl⟩
    · conv => whnf
      refine innerN t col o 4 hi (t.w 4) n (ht.w 4) _ r hn hn2 hd _ (by repeat (first | exact trivial | refine ⟨.inl rfl, ?_⟩ | refine ⟨.inr rfl, ?_⟩)) _ (fun b n2 h1 h2 h3 => ?_) (fun z env => ?_)
      · exact ⟨3, envO5 5, hpN none 32 t col o n2, by decide, .same (by repeat (first | exact trivial | refine ⟨.inl rfl, ?_⟩ | refine ⟨.inr rfl, ?_⟩)) rfl, 5, n2, rfl, by decide, h1, h2, by rw [hm']; exact h3, rfl, rfl⟩
      · exact ⟨[none, tB t, colB col, none, none, none], ⟨.inl rfl, .inl rfl, .inl rfl, .inr rfl, .inr rfl, .inl rfl, trivial⟩, rfl, rfl⟩
    · conv => whnf
      refine innerN t col o 5 hi (t.w 5) n (ht.w 5) _ r hn hn2 hd _ (by repeat (first | exact trivial | refine ⟨.inl rfl, ?_⟩ | refine ⟨.inr rfl, ?_⟩)) _ (fun b n2 h1 h2 h3 => ?_) (fun z env => ?_)
      · exact ⟨2, envO5 6, hpN none 32 t col o n2, by decide, .same (by repeat (first | exact trivial | refine ⟨.inl rfl, ?_⟩ | refine ⟨.inr rfl, ?_⟩)) rfl, 6, n2, rfl, by decide, h1, h2, by rw [hm']; exact h3, rfl, rfl⟩
      · exact ⟨[none, tB t, colB col, none, none, none], ⟨.inl rfl, .inl rfl, .inl rfl, .inr rfl, .inr rfl, .inl rfl, trivial⟩, rfl, rfl⟩
    · conv => whnf
      refine innerN t col o 6 hi (t.w 6) n (ht.w 6) _ r hn hn2 hd _ (by repeat (first | exact trivial | refine ⟨.inl rfl, ?_⟩ | refine ⟨.inr rfl, ?_⟩)) _ (fun b n2 h1 h2 h3 => ?_) (fun z env => ?_)
      · exact ⟨1, envO5 7, hpN none 32 t col o n2, by decide, .same (by repeat (first | exact trivial | refine ⟨.inl rfl, ?_⟩ | refine ⟨.inr rfl, ?_⟩)) rfl, 7, n2, rfl, by decide, h1, h2, by rw [hm']; exact h3, rfl, rfl⟩
      · exact ⟨[none, tB t, colB col, none, none, none], ⟨.inl rfl, .inl rfl, .inl rfl, .inr rfl, .inr rfl, .inl rfl, trivial⟩, rfl, rfl⟩
    · conv => whnf
      refine innerN t col o 7 hi (t.w 7) n (ht.w 7) _ r hn hn2 hd _ (by repeat (first | exact trivial | refine ⟨.inl rfl, ?_⟩ | refine ⟨.inr rfl, ?_⟩)) _ (fun b n2 h1 h2 h3 => ?_) (fun z env => ?_)
      · exact ⟨0, envO5 8, hpN none 32 t col o n2, by decide, .same (by repeat (first | exact trivial | refine ⟨.inl rfl, ?_⟩ | refine ⟨.inr rfl, ?_⟩)) rfl, 8, n2, rfl, by decide, h1, h2, by rw [hm']; exact h3, rfl, rfl⟩
      · exact ⟨[none, tB t, colB col, none, none, none], ⟨.inl rfl, .inl rfl, .inl rfl, .inr rfl, .inr rfl, .inl rfl, trivial⟩, rfl, rfl⟩
  · have hi : i = 8 := by have := of_decide_eq_false h; omega
    subst hi
    have hro : o = r := hd
    rw [hro]
    exact ⟨[none, tB t, colB col, none, none, none], ⟨.inl rfl, .inl rfl, .inl rfl, .inr rfl, .inr rfl, .inl rfl, trivial⟩, rfl, rfl⟩
end Go.Cx

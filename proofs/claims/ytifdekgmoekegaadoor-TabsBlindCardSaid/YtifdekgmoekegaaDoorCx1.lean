/- A calculus for calls of the program: canonical values and heaps, and what each operation, loop and call does to them; no condition on the program. -/
import Derived.Test.YtifdekgmoekegaaDoorCx0
namespace Go.Cx
open Go.RowKit

/-- What is known for good: cells that never change, sizes of blocks. -/
structure Phi where
  cell : Nat → Nat → Option Value
  size : Nat → Option Nat
  one : ∀ b o v, cell b o = some v → v.oneCell' = true

structure Phi.le (φ φ' : Phi) : Prop where
  cell : ∀ b o v, φ.cell b o = some v → φ'.cell b o = some v
  size : ∀ b n, φ.size b = some n → φ'.size b = some n

theorem Phi.le_refl (φ : Phi) : φ.le φ := ⟨fun _ _ _ h => h, fun _ _ h => h⟩
theorem Phi.le_trans {a b c : Phi} (h : a.le b) (g : b.le c) : a.le c := ⟨fun _ _ _ x => g.cell _ _ _ (h.cell _ _ _ x), fun _ _ x => g.size _ _ (h.size _ _ x)⟩

/-- Where own blocks lie; of a slice that grows also how long it is. -/
abbrev Mu := Nat → Option (Nat × Option Nat)
def mu0 : Mu := fun _ => none
def Mu.le (μ μ' : Mu) : Prop := ∀ i x, μ i = some x → μ' i = some x ∨ ∃ m b' m', x.2 = some m ∧ μ' i = some (b', some m') ∧ m < m'
theorem Mu.le_refl (μ : Mu) : μ.le μ := fun _ _ h => .inl h
theorem Mu.le_trans {a b c : Mu} (h : a.le b) (g : b.le c) : a.le c := fun i x hx => by
  rcases h i x hx with h1 | ⟨m, b', m', h1, h2, h3⟩
  · exact g i x h1
  · rcases g i _ h2 with g1 | ⟨n, b'', n', g1, g2, g3⟩
    · exact .inr ⟨m, b', m', h1, g1, h3⟩
    · simp only [Option.some.injEq] at g1
      subst g1
      exact .inr ⟨m, b'', n', h1, g2, by omega⟩
theorem Mu.le_plain {μ μ' : Mu} (h : μ.le μ') {i b : Nat} (hi : μ i = some (b, none)) : μ' i = some (b, none) := by
  rcases h i _ hi with h1 | ⟨m, b', m', h1, _, _⟩
  · exact h1
  · cases h1
theorem mu0_le (μ : Mu) : mu0.le μ := fun _ _ h => by cases h

def TokOk (φ : Phi) (μ : Mu) (b off n cap sz : Nat) : Tok → Prop
  | .any => True
  | .exact => cap = n
  | .own id => ∃ b' m, μ id = some (b', some m) ∧ n ≤ m ∧ (n = m → b' = b ∧ off = 0 ∧ 0 < sz ∧ φ.size b = some (cap * sz))

/-- A canonical value stands for a value of the model. -/
inductive Rv (φ : Phi) : Mu → V → Value → Prop
  | undef (μ cv) : Rv φ μ .undef cv
  | bool (μ b) : Rv φ μ (.bool b) (.bool b)
  | int (μ k n) : Rv φ μ (.int k n) (.int k n)
  | str (μ s) : Rv φ μ (.str s) (.string s)
  | nilp (μ) : Rv φ μ .nilp (.pointer none)
  | ptr (μ id off b) : μ id = some (b, none) → Rv φ μ (.ptr id off) (.pointer (some ⟨b, off, none⟩))
  | gptr (μ id off ver b m) (a : Addr) : μ id = some (b, some m) → ver ≤ m → (ver = m → a = ⟨b, off, none⟩) → Rv φ μ (.gptr id off ver) (.pointer (some a))
  | iptr (μ) (cs : List V) (b off : Nat) (c : Nat → Value) : (∀ j, j < cs.length → φ.cell b (off + j) = some (c j)) →
      (∀ j, j < cs.length → Rv φ mu0 (cs.getD j .undef) (c j)) → Rv φ μ (.iptr cs) (.pointer (some ⟨b, off, none⟩))
  | fn (μ) (f : Fn) (first caps : List V) (cf cc : Array Value) : first.length = cf.size → caps.length = cc.size →
      (∀ j, j < first.length → Rv φ μ (first.getD j .undef) (cf.getD j Go.undef)) → (∀ j, j < caps.length → Rv φ μ (caps.getD j .undef) (cc.getD j Go.undef)) →
      Rv φ μ (.fn f first caps) (.func f cf cc)
  | nilfn (μ) : Rv φ μ .nilfn .nilFunc
  | nils (μ) : Rv φ μ .nils (.slice none 0 0)
  | psl0 (μ sz a cap) : Rv φ μ (.psl sz [] .any) (.slice a 0 cap)
  | psl (μ) (sz : Nat) (xs : List (List V)) (tok : Tok) (b off cap : Nat) (c : Nat → Nat → Value) : xs.length ≤ cap → (∀ i, i < xs.length → (xs.getD i []).length = sz) →
      (∀ i j, i < xs.length → j < sz → φ.cell b (off + i * sz + j) = some (c i j)) → (∀ i j, i < xs.length → j < sz → Rv φ mu0 ((xs.getD i []).getD j .undef) (c i j)) →
      TokOk φ μ b off xs.length cap sz tok → Rv φ μ (.psl sz xs tok) (.slice (some ⟨b, off, none⟩) xs.length cap)
  | lsl (μ id sz off n cap b) : μ id = some (b, none) → n ≤ cap → Rv φ μ (.lsl id sz off n cap) (.slice (some ⟨b, off, none⟩) n cap)
  | gsl (μ id sz off n lo ex ver b m cc) (a : Addr) : μ id = some (b, some m) → ver ≤ m → n ≤ cc → lo ≤ cc → (ex = true → cc = lo) → (ver = m → a = ⟨b, off, none⟩ ∧ ∃ S, φ.size b = some S ∧ off + cc * sz ≤ S) →
      Rv φ μ (.gsl id sz off n lo ex ver) (.slice (some a) n cc)
  | map (μ id b) : μ id = some (b, none) → Rv φ μ (.map id) (.map (some b))
  | nilm (μ) : Rv φ μ .nilm (.map none)
  | yld (μ id b) : μ id = some (b, none) → Rv φ μ (.yld id) (.func (.yield b) #[] #[])
  | agg (μ) (xs : List V) (cs : Array Value) : xs.length = cs.size → (∀ j, j < xs.length → Rv φ μ (xs.getD j .undef) (cs.getD j Go.undef)) → Rv φ μ (.agg xs) (.agg cs)
  | tup (μ) (xs : List V) (cs : Array Value) : xs.length = cs.size → (∀ j, j < xs.length → Rv φ μ (xs.getD j .undef) (cs.getD j Go.undef)) → Rv φ μ (.tup xs) (.tuple cs)

theorem TokOk.mono {φ φ' : Phi} {μ μ' : Mu} (hφ : φ.le φ') (hμ : μ.le μ') {b off n cap sz : Nat} {t : Tok} (h : TokOk φ μ b off n cap sz t) : TokOk φ' μ' b off n cap sz t := by
  cases t with
  | any => trivial
  | exact => exact h
  | own id =>
    obtain ⟨b', m, h1, h2, h3⟩ := h
    rcases hμ _ _ h1 with g | ⟨m0, b'', m', g1, g2, g3⟩
    · exact ⟨b', m, g, h2, fun e => ⟨(h3 e).1, (h3 e).2.1, (h3 e).2.2.1, hφ.size _ _ (h3 e).2.2.2⟩⟩
    · simp only [Option.some.injEq] at g1
      subst g1
      exact ⟨b'', m', g2, by omega, fun e => by omega⟩

theorem Mu.le_ver {μ μ' : Mu} (h : μ.le μ') {i b m ver : Nat} (hi : μ i = some (b, some m)) (hv : ver ≤ m) : ∃ b' m', μ' i = some (b', some m') ∧ ver ≤ m' ∧ (ver = m' → b' = b ∧ m' = m) := by
  rcases h i _ hi with h1 | ⟨m0, b', m', h1, h2, h3⟩
  · exact ⟨b, m, h1, hv, fun _ => ⟨rfl, rfl⟩⟩
  · simp only [Option.some.injEq] at h1
    subst h1
    exact ⟨b', m', h2, by omega, fun e => by omega⟩

theorem Rv.mono {φ φ' : Phi} (hφ : φ.le φ') {μ : Mu} {v : V} {cv : Value} (h : Rv φ μ v cv) : ∀ {μ' : Mu}, μ.le μ' → Rv φ' μ' v cv := by
  induction h with
  | undef => intro μ' _; exact .undef _ _
  | bool => intro μ' _; exact .bool _ _
  | int => intro μ' _; exact .int _ _ _
  | str => intro μ' _; exact .str _ _
  | nilp => intro μ' _; exact .nilp _
  | ptr μ id off b h => intro μ' hm; exact .ptr _ _ _ _ (Mu.le_plain hm h)
  | gptr μ id off ver b m a h h1 h2 =>
    intro μ' hm
    obtain ⟨b', m', g1, g2, g3⟩ := Mu.le_ver hm h h1
    exact .gptr _ _ _ _ b' m' _ g1 g2 (fun e => by obtain ⟨rfl, rfl⟩ := g3 e; exact h2 e)
  | gsl μ id sz off n lo ex ver b m cc a h h1 h2 h3 h4 h5 =>
    intro μ' hm
    obtain ⟨b', m', g1, g2, g3⟩ := Mu.le_ver hm h h1
    exact .gsl _ _ _ _ _ _ _ _ b' m' _ _ g1 g2 h2 h3 h4 (fun e => by
      obtain ⟨rfl, rfl⟩ := g3 e
      obtain ⟨k1, S, k4, k5⟩ := h5 e
      exact ⟨k1, S, hφ.size _ _ k4, k5⟩)
  | nilm => intro μ' _; exact .nilm _
  | iptr μ cs b off c h _ ih => intro μ' _; exact .iptr _ _ _ _ c (fun j hj => hφ.cell _ _ _ (h j hj)) (fun j hj => ih j hj (Mu.le_refl _))
  | fn μ f first caps cf cc l1 l2 _ _ i1 i2 => intro μ' hm; exact .fn _ _ _ _ _ _ l1 l2 (fun j hj => i1 j hj hm) (fun j hj => i2 j hj hm)
  | nilfn => intro μ' _; exact .nilfn _
  | nils => intro μ' _; exact .nils _
  | psl0 => intro μ' _; exact .psl0 _ _ _ _
  | psl μ sz xs tok b off cap c h0 h1 h2 _ h4 ih => intro μ' hm; exact .psl _ _ _ _ _ _ _ c h0 h1 (fun i j hi hj => hφ.cell _ _ _ (h2 i j hi hj)) (fun i j hi hj => ih i j hi hj (Mu.le_refl _)) (h4.mono hφ hm)
  | lsl μ id sz off n cap b h h' => intro μ' hm; exact .lsl _ _ _ _ _ _ _ (Mu.le_plain hm h) h'
  | map μ id b h => intro μ' hm; exact .map _ _ _ (Mu.le_plain hm h)
  | yld μ id b h => intro μ' hm; exact .yld _ _ _ (Mu.le_plain hm h)
  | agg μ xs cs l _ ih => intro μ' hm; exact .agg _ _ _ l (fun j hj => ih j hj hm)
  | tup μ xs cs l _ ih => intro μ' hm; exact .tup _ _ _ l (fun j hj => ih j hj hm)

/-! ### Heaps -/

inductive Blk where
  | cells (e : TypeId) (cs : List V)
  | token (sz n : Nat)
  | grow (ver : Nat) (e : TypeId) (sz : Nat) (cs : List V)
  | dead
  | siter (s : ByteArray) (pos : Nat)
  | miter (mid since : Nat) (seen : List Nat) (last : Nat)
  | map (es : List (V × V × Nat)) (clock : Nat)
  | mapc (es : List (V × V)) (clock : Nat)
  | loop (env : List V) (ps : List Nat) (assign body : Code) (st : LoopState) (pend : Option Code)

abbrev Heap := List (Option Blk)
def hget (h : Heap) (i : Nat) : Option Blk := (h[i]?).join

def BlkR (φ : Phi) (μ : Mu) (b : Nat) (o : Option Nat) (w : World) : Blk → Prop
  | .cells e cs => o = none ∧ ∃ (c : Array Value), w.heap[b]? = some (.cells c e (0, 0)) ∧ c.size = cs.length ∧ (∀ j, j < cs.length → Rv φ μ (cs.getD j .undef) (c.getD j Go.undef)) ∧ ∀ o, φ.cell b o = none
  | .token sz n => o = some n ∧ ∃ (c : Array Value) (e : TypeId), w.heap[b]? = some (.cells c e (0, 0)) ∧ φ.size b = some c.size ∧ ∀ o, n * sz ≤ o → φ.cell b o = none
  | .grow ver e _ cs => o = some ver ∧ ∃ (c : Array Value), w.heap[b]? = some (.cells c e (0, 0)) ∧ cs.length ≤ c.size ∧ φ.size b = some c.size ∧ (∀ j, j < cs.length → Rv φ μ (cs.getD j .undef) (c.getD j Go.undef)) ∧ ∀ o, φ.cell b o = none
  | .dead => True
  | .siter s pos => o = none ∧ w.heap[b]? = some (.stringIter s pos)
  | .miter mid since seen last => o = none ∧ ∃ bm, μ mid = some (bm, none) ∧ w.heap[b]? = some (.mapIter (some bm) since seen.toArray last)
  | .map es clock => o = none ∧ ∃ (c : Array MapEntry), w.heap[b]? = some (.map c clock) ∧ c.size = es.length ∧ ∀ (j : Nat) (x : V × V × Nat) (y : MapEntry), es[j]? = some x → c[j]? = some y → Rv φ μ x.1 y.key ∧ Rv φ μ x.2.1 y.val ∧ x.2.2 = y.born
  | .mapc es clock => o = none ∧ ∃ (c : Array MapEntry) (fs : List (V × V × Nat)), w.heap[b]? = some (.map c clock) ∧ c.size = fs.length ∧ (∀ (j : Nat) (x : V × V × Nat) (y : MapEntry), fs[j]? = some x → c[j]? = some y → Rv φ μ x.1 y.key ∧ Rv φ μ x.2.1 y.val ∧ x.2.2 = y.born) ∧
      (fs.map fun x => (x.1, x.2.1)).Perm es ∧ (fs.map fun x => x.2.2).Nodup ∧ ∀ x ∈ fs, x.2.2 < clock
  | .loop env ps assign body st pend => o = none ∧ ∃ (fn : FuncId) (tmps : Array Value) (d : Nat), w.heap[b]? = some (.loop { state := st, pending := pend, fn := fn, tmps := tmps, params := ps.toArray, assign := assign, body := body, defers := d }) ∧ env.length = tmps.size ∧ ∀ j, j < env.length → Rv φ μ (env.getD j .undef) (tmps.getD j Go.undef)

structure Rel (φ : Phi) (μ : Mu) (B : Nat) (h : Heap) (w : World) : Prop where
  glob : ∀ g cs, globTab g = some cs → Rv φ mu0 (.iptr cs) (.pointer (some ⟨g, 0, none⟩))
  cell : ∀ b o v, φ.cell b o = some v → w.cell? ⟨b, o, none⟩ = some v
  size : ∀ b n, φ.size b = some n → ∃ (c : Array Value) (e : TypeId) (fr : Nat × Nat), w.heap[b]? = some (.cells c e fr) ∧ c.size = n
  inj : ∀ i j b x y, μ i = some (b, x) → μ j = some (b, y) → i = j
  dom : ∀ i b x, μ i = some (b, x) → i < h.length ∧ b < w.heap.size ∧ B ≤ b
  blk : ∀ i k, hget h i = some k → ∃ b x, μ i = some (b, x) ∧ BlkR φ μ b x w k

/-- What else has changed: nothing but blocks that μ names, and new ones. -/
structure Fr (μ : Mu) (w w' : World) : Prop where
  os : w'.os = w.os
  tape : w'.tape = w.tape
  output : w'.output = w.output
  size : w.heap.size ≤ w'.heap.size
  block : ∀ k, k < w.heap.size → (∀ i x, μ i ≠ some (k, x)) → w'.heap[k]? = w.heap[k]?
  loops : ∀ (k : Nat) (r : Loop), w.heap[k]? = some (Obj.loop r) → ∃ r', w'.heap[k]? = some (Obj.loop r')

structure Ext (φ : Phi) (μ : Mu) (w : World) (φ' : Phi) (μ' : Mu) : Prop where
  phi : φ.le φ'
  mu : μ.le μ'
  fresh : ∀ i b x, μ' i = some (b, x) → (∃ y, μ i = some (b, y)) ∨ w.heap.size ≤ b
  cells : ∀ b o v, φ'.cell b o = some v → φ.cell b o = some v ∨ w.heap.size ≤ b ∨ ∃ i y, μ i = some (b, y)

theorem Fr.refl (μ : Mu) (w : World) : Fr μ w w := ⟨rfl, rfl, rfl, Nat.le_refl _, fun _ _ _ => rfl, fun _ r h => ⟨r, h⟩⟩
theorem Ext.refl (φ : Phi) (μ : Mu) (w : World) : Ext φ μ w φ μ := ⟨φ.le_refl, Mu.le_refl _, fun _ _ _ h => .inl ⟨_, h⟩, fun _ _ _ h => .inl h⟩

theorem Fr.trans {φ φ' : Phi} {μ μ' : Mu} {a b c : World} (h : Fr μ a b) (e : Ext φ μ a φ' μ') (g : Fr μ' b c) : Fr μ a c :=
  ⟨g.os.trans h.os, g.tape.trans h.tape, g.output.trans h.output, Nat.le_trans h.size g.size, fun k hk hn => by
    rw [g.block k (Nat.lt_of_lt_of_le hk h.size) (fun i x hi => ?_), h.block k hk hn]
    rcases e.fresh i k x hi with ⟨y, h'⟩ | h'
    · exact hn i y h'
    · omega, fun k r hk => by
    obtain ⟨r1, h1⟩ := h.loops k r hk
    exact g.loops k r1 h1⟩

theorem Ext.trans {φ φ' φ'' : Phi} {μ μ' μ'' : Mu} {a b : World} (e : Ext φ μ a φ' μ') (hs : a.heap.size ≤ b.heap.size) (g : Ext φ' μ' b φ'' μ'') : Ext φ μ a φ'' μ'' :=
  ⟨Phi.le_trans e.phi g.phi, Mu.le_trans e.mu g.mu, fun i x q hi => by
    rcases g.fresh i x q hi with ⟨y, h⟩ | h
    · exact e.fresh i x y h
    · exact .inr (by omega), fun b o v hv => by
    rcases g.cells b o v hv with h | h | ⟨i, y, h⟩
    · exact e.cells b o v h
    · exact .inr (.inl (by omega))
    · rcases e.fresh i b y h with ⟨z, h'⟩ | h'
      · exact .inr (.inr ⟨i, z, h'⟩)
      · exact .inr (.inl h')⟩

theorem Fr.below {w w' : World} (h : Fr mu0 w w') : Below w.heap.size w w' :=
  ⟨h.os, h.tape, h.output, h.size, fun k hk => h.block k hk (fun _ _ hi => by cases hi)⟩

/-- A draw changes nothing. -/
theorem Rel.drawn {φ : Phi} {μ : Mu} {B : Nat} {h : Heap} {w : World} (r : Rel φ μ B h w) (n : Nat) : Rel φ μ B h { w with drawn := n } :=
  ⟨r.glob, r.cell, r.size, r.inj, r.dom, r.blk⟩
theorem Fr.drawn (μ : Mu) (w : World) (n : Nat) : Fr μ w { w with drawn := n } := ⟨rfl, rfl, rfl, Nat.le_refl _, fun _ _ _ => rfl, fun _ r h => ⟨r, h⟩⟩

def RvL (φ : Phi) (μ : Mu) (vs : List V) (cs : Array Value) : Prop := vs.length = cs.size ∧ ∀ j, Rv φ μ (vs.getD j .undef) (cs.getD j Go.undef)

theorem RvL.mono {φ φ' : Phi} {μ μ' : Mu} (hφ : φ.le φ') (hμ : μ.le μ') {vs : List V} {cs : Array Value} (h : RvL φ μ vs cs) : RvL φ' μ' vs cs :=
  ⟨h.1, fun j => (h.2 j).mono hφ hμ⟩

/-! ### What a call comes to -/
/-- A function is entered, or stands for what the model does in its place. -/
def CallTo (P : Program) (g : FuncId) (cargs : Array Value) (w : World) (Q : Ending → World → Prop) : Prop :=
  ((callFunc g cargs).run P w = .ok (.enter g cargs) w ∧ Calls P g cargs w Q) ∨ ∃ v, (callFunc g cargs).run P w = .ok (.value v) w ∧ Q (.returned v) w
theorem CallTo.mono {P : Program} {g : FuncId} {cargs : Array Value} {w : World} {Q Q' : Ending → World → Prop} (h : CallTo P g cargs w Q) (hQ : ∀ e w', Q e w' → Q' e w') : CallTo P g cargs w Q' :=
  h.imp (fun h => ⟨h.1, h.2.mono hQ⟩) (fun ⟨v, h1, h2⟩ => ⟨v, h1, hQ _ _ h2⟩)

/-- What stands behind a call. -/
def Ret (φ : Phi) (μ : Mu) (B : Nat) (w : World) (K : V → Heap → Prop) (e : Ending) (w' : World) : Prop :=
  ∃ v h' φ' μ' cv, e = .returned cv ∧ K v h' ∧ Rv φ' μ' v cv ∧ Rel φ' μ' B h' w' ∧ Ext φ μ w φ' μ' ∧ Fr μ w w'

structure Sem (P : Program) (g : FuncId) (args : List V) (h : Heap) (K : V → Heap → Prop) : Prop where
  run : ∀ (φ : Phi) (μ : Mu) (B : Nat) (w : World) (cargs : Array Value), B ≤ w.heap.size → Rel φ μ B h w → RvL φ μ args cargs → CallTo P g cargs w (Ret φ μ B w K)

theorem Ret.mono {φ : Phi} {μ : Mu} {B : Nat} {w w' : World} {K K' : V → Heap → Prop} {e : Ending} (k : ∀ v h', K v h' → K' v h') (h : Ret φ μ B w K e w') : Ret φ μ B w K' e w' := by
  obtain ⟨v, h', φ', μ', cv, e, hk, x⟩ := h
  exact ⟨v, h', φ', μ', cv, e, k _ _ hk, x⟩

theorem Sem.mono {P : Program} {g : FuncId} {args : List V} {h : Heap} {K K' : V → Heap → Prop} (s : Sem P g args h K) (k : ∀ v h', K v h' → K' v h') : Sem P g args h K' :=
  ⟨fun φ μ B w cargs hB r a => (s.run φ μ B w cargs hB r a).mono fun _ _ => Ret.mono k⟩

end Go.Cx

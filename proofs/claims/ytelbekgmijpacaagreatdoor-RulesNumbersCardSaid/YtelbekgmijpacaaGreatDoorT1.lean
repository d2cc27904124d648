/- The theory of abstract runs, part 1: what a contract says, and that the executor keeps it. Of no program. -/
import Derived.Calls
import Derived.LoopN
import Derived.Deep.Quiet
import Derived.Laws.World
import Derived.RowKit3
import Derived.Below
import Derived.Laws.Sem
import Derived.Laws.Entries
import Derived.Laws.Strings
import Derived.Laws.Small
import Derived.Laws.StructEq
import Derived.Laws.Cover1
namespace Go.Abs
/-- Where a block of the abstract heap lies: the machine's block, the offset of its first cell, how many elements it bears from there on. -/
structure Pl where
  g : Nat
  off : Nat
  cap : Nat
inductive Cap where
  | exact (n : Nat)
  | rest (k : Nat)
inductive AVal where
  | undef
  | bool (b : Bool)
  | int (k : IntKind) (n : Int)
  | str (s : List UInt8)
  | ptr (b o : Nat)
  | nilptr
  | gptr (g o : Nat)
  | sl (b o len : Nat) (c : Cap)
  | esl
  | nilsl
  | map (b : Nat)
  | nilmap
  | func (fn : Fn) (first cap : List AVal)
  | nilfunc
  | iface (t : TypeId) (v : AVal)
  | nilif
  | agg (l : List AVal)
  | tup (l : List AVal)
  deriving Inhabited
/-- An abstract value tells of a value of the machine's; the numbers of blocks that it names lie below N. -/
inductive VR (σ : Nat → Pl) (N : Nat) : AVal → Value → Prop where
  | undef (V : Value) : VR σ N .undef V
  | bool (b : Bool) : VR σ N (.bool b) (.bool b)
  | int (k : IntKind) (n : Int) : VR σ N (.int k n) (.int k n)
  | str (s : List UInt8) : VR σ N (.str s) (.string ⟨s.toArray⟩)
  | ptr (b o : Nat) (h : b < N) : VR σ N (.ptr b o) (.pointer (some ⟨(σ b).g, (σ b).off + o, none⟩))
  | nilptr : VR σ N .nilptr (.pointer none)
  | gptr (g o : Nat) : VR σ N (.gptr g o) (.pointer (some ⟨g, o, none⟩))
  | slx (b o len n : Nat) (h : b < N) (hl : len ≤ n) : VR σ N (.sl b o len (.exact n)) (.slice (some ⟨(σ b).g, (σ b).off + o, none⟩) len n)
  | slr (b o len k : Nat) (h : b < N) (hl : len + k ≤ (σ b).cap) : VR σ N (.sl b o len (.rest k)) (.slice (some ⟨(σ b).g, (σ b).off + o, none⟩) len ((σ b).cap - k))
  | esl (A : Option Addr) (C : Nat) : VR σ N .esl (.slice A 0 C)
  | nilsl : VR σ N .nilsl (.slice none 0 0)
  | map (b : Nat) (h : b < N) : VR σ N (.map b) (.map (some (σ b).g))
  | nilmap : VR σ N .nilmap (.map none)
  | func (fn : Fn) (fs cs : List AVal) (Fs Cs : Array Value) (hf : Fs.size = fs.length) (hc : Cs.size = cs.length)
      (h1 : ∀ (i : Nat) (v : AVal) (V : Value), fs[i]? = some v → Fs[i]? = some V → VR σ N v V) (h2 : ∀ (i : Nat) (v : AVal) (V : Value), cs[i]? = some v → Cs[i]? = some V → VR σ N v V) : VR σ N (.func fn fs cs) (.func fn Fs Cs)
  | nilfunc : VR σ N .nilfunc .nilFunc
  | iface (t : TypeId) (v : AVal) (V : Value) (h : VR σ N v V) : VR σ N (.iface t v) (.iface t V)
  | nilif : VR σ N .nilif .nilIface
  | agg (l : List AVal) (cs : Array Value) (hs : cs.size = l.length) (h : ∀ (i : Nat) (v : AVal) (V : Value), l[i]? = some v → cs[i]? = some V → VR σ N v V) : VR σ N (.agg l) (.agg cs)
  | tup (l : List AVal) (cs : Array Value) (hs : cs.size = l.length) (h : ∀ (i : Nat) (v : AVal) (V : Value), l[i]? = some v → cs[i]? = some V → VR σ N v V) : VR σ N (.tup l) (.tuple cs)
theorem VR.mono {σ σ' : Nat → Pl} {N N' : Nat} (hN : N ≤ N') (hσ : ∀ b, b < N → σ' b = σ b) {v : AVal} {V : Value} (h : VR σ N v V) : VR σ' N' v V := by
  induction h with
  | undef V => exact .undef V
  | bool b => exact .bool b
  | int k n => exact .int k n
  | str s => exact .str s
  | ptr b o h => have := VR.ptr (σ := σ') (N := N') b o (by omega); rwa [hσ b h] at this
  | nilptr => exact .nilptr
  | gptr g o => exact .gptr g o
  | slx b o len n h hl => have := VR.slx (σ := σ') (N := N') b o len n (by omega) hl; rwa [hσ b h] at this
  | slr b o len k h hl => have := VR.slr (σ := σ') (N := N') b o len k (by omega) (by rw [hσ b h]; exact hl); rwa [hσ b h] at this
  | esl A C => exact .esl A C
  | nilsl => exact .nilsl
  | map b h => have := VR.map (σ := σ') (N := N') b (by omega); rwa [hσ b h] at this
  | nilmap => exact .nilmap
  | func fn fs cs Fs Cs hf hc h1 h2 ih1 ih2 => exact .func fn fs cs Fs Cs hf hc ih1 ih2
  | nilfunc => exact .nilfunc
  | iface t v V h ih => exact .iface t v V ih
  | nilif => exact .nilif
  | agg l cs hs h ih => exact .agg l cs hs ih
  | tup l cs hs h ih => exact .tup l cs hs ih
/-- Lists of values. -/
def VRs (σ : Nat → Pl) (N : Nat) (l : List AVal) (cs : Array Value) : Prop := cs.size = l.length ∧ ∀ (i : Nat) (v : AVal) (V : Value), l[i]? = some v → cs[i]? = some V → VR σ N v V
theorem VRs.mono {σ σ' : Nat → Pl} {N N' : Nat} (hN : N ≤ N') (hσ : ∀ b, b < N → σ' b = σ b) {l : List AVal} {cs : Array Value} (h : VRs σ N l cs) : VRs σ' N' l cs :=
  ⟨h.1, fun i v V hv hV => (h.2 i v V hv hV).mono hN hσ⟩

inductive ABlk where
  | cells (es : Nat) (l : List AVal) (rw : Bool)
  | mp (l : List (AVal × AVal)) (bs : List Nat) (c : Nat)
  | buf (t : TypeId) (l : List UInt8)
  | tcells (t : TypeId) (l : List AVal)
  | ms (l : List (AVal × AVal))
structure AHeap where
  next : Nat
  get : Nat → Option ABlk
def ABlk.rw : ABlk → Bool
  | .cells _ _ r => r
  | .mp _ _ _ => true
  | .buf _ _ => true
  | .tcells _ _ => true
  | .ms _ => true
def AHeap.alloc (H : AHeap) (b : ABlk) : AHeap := { next := H.next + 1, get := fun i => if i = H.next then some b else H.get i }
def AHeap.set (H : AHeap) (n : Nat) (b : ABlk) : AHeap := { next := H.next, get := fun i => if i = n then some b else H.get i }
def AHeap.kill (H : AHeap) (n : Nat) : AHeap := { next := H.next, get := fun i => if i = n then none else H.get i }
/-- The block numbers of the machine's that the heap holds; those that may be written. -/
def Foot (σ : Nat → Pl) (H : AHeap) (g : Nat) : Prop := ∃ b blk, H.get b = some blk ∧ (σ b).g = g
def Own (σ : Nat → Pl) (H : AHeap) (g : Nat) : Prop := ∃ b blk, H.get b = some blk ∧ blk.rw = true ∧ (σ b).g = g
theorem Own.foot {σ : Nat → Pl} {H : AHeap} {g : Nat} (h : Own σ H g) : Foot σ H g := let ⟨b, blk, h1, _, h3⟩ := h; ⟨b, blk, h1, h3⟩
/-- One entry of a map's. -/
def EntR (σ : Nat → Pl) (N : Nat) (p : AVal × AVal) (e : MapEntry) : Prop := VR σ N p.1 e.key ∧ VR σ N p.2 e.val
/-- A block is where the map of places says. -/
def BlkR (σ : Nat → Pl) (N : Nat) (p : Pl) (w : World) : ABlk → Prop
  | .cells es l false => p.g < w.heap.size ∧ ∀ (i : Nat) (v : AVal), l[i]? = some v → ∃ V, w.cell? ⟨p.g, p.off + i, none⟩ = some V ∧ VR σ N v V
  | .cells es l true => ∃ cs t fr, w.heap[p.g]? = some (.cells cs t fr) ∧ (∀ i, i < cs.size → ¬ (fr.1 ≤ i ∧ i < fr.2)) ∧ l.length ≤ p.cap * es ∧ p.off + p.cap * es ≤ cs.size ∧
      ∀ (i : Nat) (v : AVal), l[i]? = some v → ∃ V, cs[p.off + i]? = some V ∧ VR σ N v V
  | .mp l bs c => ∃ es, w.heap[p.g]? = some (.map es c) ∧ es.size = l.length ∧ (∀ (i : Nat) (p : AVal × AVal) (e : MapEntry), l[i]? = some p → es[i]? = some e → EntR σ N p e) ∧ es.toList.map (·.born) = bs ∧ (∀ x ∈ bs, x < c) ∧ bs.Nodup
  | .buf t l => ∃ cs fr, w.heap[p.g]? = some (.cells cs t fr) ∧ (∀ i, i < cs.size → ¬ (fr.1 ≤ i ∧ i < fr.2)) ∧ p.off = 0 ∧ l.length ≤ p.cap ∧ p.cap ≤ cs.size ∧ (∀ (i : Nat) (c : UInt8), l[i]? = some c → cs[i]? = some (.int .u8 c.toNat))
  | .tcells t l => ∃ cs fr, w.heap[p.g]? = some (.cells cs t fr) ∧ (∀ i, i < cs.size → ¬ (fr.1 ≤ i ∧ i < fr.2)) ∧ p.off = 0 ∧ l.length = cs.size ∧ (∀ (i : Nat) (v : AVal), l[i]? = some v → ∃ V, cs[p.off + i]? = some V ∧ VR σ N v V)
  | .ms l => ∃ (l' : List (AVal × AVal)) (bs : List Nat) (c : Nat), l'.Perm l ∧ ∃ es : Array MapEntry, w.heap[p.g]? = some (.map es c) ∧ es.size = l'.length ∧ (∀ (i : Nat) (p : AVal × AVal) (e : MapEntry), l'[i]? = some p → es[i]? = some e → EntR σ N p e) ∧ es.toList.map (·.born) = bs ∧ (∀ x ∈ bs, x < c) ∧ bs.Nodup
/-- What the package-level variables read as. -/
def GlobR (G : Nat → Option (List AVal)) (w : World) : Prop :=
  ∀ g l, G g = some l → g < w.heap.size ∧ ∀ (i : Nat) (v : AVal), l[i]? = some v → ∃ V, w.cell? ⟨g, i, none⟩ = some V ∧ VR (fun _ => ⟨0, 0, 0⟩) 0 v V
structure HeapRel (G : Nat → Option (List AVal)) (σ : Nat → Pl) (H : AHeap) (w : World) : Prop where
  lt : ∀ b blk, H.get b = some blk → b < H.next
  blk : ∀ b blk, H.get b = some blk → BlkR σ H.next (σ b) w blk
  sep : ∀ b b' blk blk', H.get b = some blk → H.get b' = some blk' → b ≠ b' → blk.rw = true → (σ b).g ≠ (σ b').g
  glob : GlobR G w
  globFar : ∀ b blk g l, H.get b = some blk → blk.rw = true → G g = some l → (σ b).g ≠ g
theorem BlkR.size {σ : Nat → Pl} {N : Nat} {p : Pl} {w : World} {blk : ABlk} (h : BlkR σ N p w blk) : p.g < w.heap.size := by
  cases blk with
  | cells es l r =>
    cases r with
    | false => exact h.1
    | true => obtain ⟨cs, t, fr, h, _⟩ := h; exact (Array.getElem?_eq_some_iff.1 h).1
  | mp l bs c => obtain ⟨es, h, _⟩ := h; exact (Array.getElem?_eq_some_iff.1 h).1
  | buf t l => obtain ⟨cs, fr, h, _⟩ := h; exact (Array.getElem?_eq_some_iff.1 h).1
  | tcells t l => obtain ⟨cs, fr, h, _⟩ := h; exact (Array.getElem?_eq_some_iff.1 h).1
  | ms l => obtain ⟨l', bs, c, _, es, h, _⟩ := h; exact (Array.getElem?_eq_some_iff.1 h).1
theorem cell?_congr {w w' : World} {a : Addr} (h : w'.heap[a.block]? = w.heap[a.block]?) : w'.cell? a = w.cell? a := by
  unfold World.cell?; rw [h]
/-- A block that is as it was, more numbers being in use. -/
theorem BlkR.mono {σ σ' : Nat → Pl} {N N' : Nat} {p : Pl} {w w' : World} {blk : ABlk} (hN : N ≤ N') (hσ : ∀ b, b < N → σ' b = σ b) (hs : w.heap.size ≤ w'.heap.size) (hw : w'.heap[p.g]? = w.heap[p.g]?)
    (h : BlkR σ N p w blk) : BlkR σ' N' p w' blk := by
  cases blk with
  | cells es l r =>
    cases r with
    | false =>
      refine ⟨Nat.lt_of_lt_of_le h.1 hs, fun i v hv => ?_⟩
      obtain ⟨V, h1, h2⟩ := h.2 i v hv
      exact ⟨V, by rw [cell?_congr (by exact hw)]; exact h1, h2.mono hN hσ⟩
    | true =>
      obtain ⟨cs, t, fr, h1, h2, h3, h4, h5⟩ := h
      refine ⟨cs, t, fr, by rw [hw]; exact h1, h2, h3, h4, fun i v hv => ?_⟩
      obtain ⟨V, a, b⟩ := h5 i v hv
      exact ⟨V, a, b.mono hN hσ⟩
  | mp l bs c =>
    obtain ⟨es, h1, h2, h3, h4⟩ := h
    exact ⟨es, by rw [hw]; exact h1, h2, fun i p e hp he => ⟨(h3 i p e hp he).1.mono hN hσ, (h3 i p e hp he).2.mono hN hσ⟩, h4⟩
  | buf t l =>
    obtain ⟨cs, fr, h1, h2⟩ := h
    exact ⟨cs, fr, by rw [hw]; exact h1, h2⟩
  | tcells t l =>
    obtain ⟨cs, fr, h1, h2, h3, h4, h5⟩ := h
    refine ⟨cs, fr, by rw [hw]; exact h1, h2, h3, h4, fun i v hv => ?_⟩
    obtain ⟨V, a, b⟩ := h5 i v hv
    exact ⟨V, a, b.mono hN hσ⟩
  | ms l =>
    obtain ⟨l', bs, c, hp, es, h1, h2, h3, h4⟩ := h
    exact ⟨l', bs, c, hp, es, by rw [hw]; exact h1, h2, fun i p e hp he => ⟨(h3 i p e hp he).1.mono hN hσ, (h3 i p e hp he).2.mono hN hσ⟩, h4⟩
/-- How the world goes on: what is neither owned nor new is as it was. -/
structure Evo (F O : Nat → Prop) (F' O' : Nat → Prop) (w w' : World) : Prop where
  os : w'.os = w.os
  tape : w'.tape = w.tape
  output : w'.output = w.output
  size : w.heap.size ≤ w'.heap.size
  keep : ∀ g, g < w.heap.size → ¬ O g → w'.heap[g]? = w.heap[g]?
  own : ∀ g, O' g → O g ∨ w.heap.size ≤ g
  foot : ∀ g, F' g → F g ∨ w.heap.size ≤ g
theorem Evo.refl (F O : Nat → Prop) (w : World) : Evo F O F O w w := ⟨rfl, rfl, rfl, Nat.le_refl _, fun _ _ _ => rfl, fun _ h => .inl h, fun _ h => .inl h⟩
theorem Evo.trans {F O F' O' F'' O'' : Nat → Prop} {w w' w'' : World} (h : Evo F O F' O' w w') (k : Evo F' O' F'' O'' w' w'') : Evo F O F'' O'' w w'' where
  os := k.os.trans h.os
  tape := k.tape.trans h.tape
  output := k.output.trans h.output
  size := Nat.le_trans h.size k.size
  keep g hg ho := by
    have : ¬ O' g := fun h' => by
      rcases h.own g h' with h1 | h1
      · exact ho h1
      · omega
    rw [k.keep g (Nat.lt_of_lt_of_le hg h.size) this, h.keep g hg ho]
  own g hg := by
    rcases k.own g hg with h1 | h1
    · exact h.own g h1
    · exact .inr (Nat.le_trans h.size h1)
  foot g hg := by
    rcases k.foot g hg with h1 | h1
    · exact h.foot g h1
    · exact .inr (Nat.le_trans h.size h1)
/-- The heap's relation in a later world in which what it holds has not turned. -/
theorem GlobR.mono {G : Nat → Option (List AVal)} {w w' : World} (hs : w.heap.size ≤ w'.heap.size) (h : GlobR G w) (hw : ∀ g l, G g = some l → w'.heap[g]? = w.heap[g]?) : GlobR G w' := fun g l hg =>
  ⟨Nat.lt_of_lt_of_le (h g l hg).1 hs, fun i v hv => by
    obtain ⟨V, h1, h2⟩ := (h g l hg).2 i v hv
    exact ⟨V, by rw [cell?_congr (by exact hw g l hg)]; exact h1, h2⟩⟩
theorem HeapRel.world {G : Nat → Option (List AVal)} {σ : Nat → Pl} {H : AHeap} {w w' : World} (h : HeapRel G σ H w) (hs : w.heap.size ≤ w'.heap.size)
    (hw : ∀ g, Foot σ H g → w'.heap[g]? = w.heap[g]?) (hg : ∀ g l, G g = some l → w'.heap[g]? = w.heap[g]?) : HeapRel G σ H w' where
  lt := h.lt
  blk b blk hb := (h.blk b blk hb).mono (Nat.le_refl _) (fun _ _ => rfl) hs (hw _ ⟨b, blk, hb, rfl⟩)
  sep := h.sep
  glob := h.glob.mono hs hg
  globFar := h.globFar
end Go.Abs
namespace Go.Abs
/-- What a slot holds: a value, or the address of a cell in a block of the activation's own. -/
inductive TVal where
  | v (x : AVal)
  | lp (i o : Nat)
inductive LBlk where
  | cells (l : List AVal)
  | siter (s : List UInt8) (pos : Nat)
  | mit (b since : Nat) (seen : List Nat) (c : Nat)
  | dead
abbrev Loc := List LBlk
structure St where
  env : List TVal
  loc : Loc
  heap : AHeap
def LBlk.live : LBlk → Bool
  | .dead => false
  | _ => true
def LBlkR (σ : Nat → Pl) (N : Nat) (g : Nat) (w : World) : LBlk → Prop
  | .cells l => ∃ cs t, w.heap[g]? = some (.cells cs t (0, 0)) ∧ VRs σ N l cs
  | .siter s pos => w.heap[g]? = some (.stringIter ⟨s.toArray⟩ pos)
  | .mit b since seen c => b < N ∧ w.heap[g]? = some (.mapIter (some (σ b).g) since seen.toArray c)
  | .dead => True
structure LocRel (G : Nat → Option (List AVal)) (σ : Nat → Pl) (lam : Nat → Nat) (loc : Loc) (H : AHeap) (w : World) : Prop where
  blk : ∀ (i : Nat) (b : LBlk), loc[i]? = some b → LBlkR σ H.next (lam i) w b
  far : ∀ (i : Nat) (b : LBlk), loc[i]? = some b → b.live = true → ¬ Foot σ H (lam i)
  inj : ∀ (i j : Nat) (b b' : LBlk), loc[i]? = some b → loc[j]? = some b' → b.live = true → b'.live = true → i ≠ j → lam i ≠ lam j
  glob : ∀ (i : Nat) (b : LBlk) g l, loc[i]? = some b → b.live = true → G g = some l → lam i ≠ g
  lt : ∀ (i : Nat) (b : LBlk), loc[i]? = some b → b.live = true → lam i < w.heap.size
def TR (σ : Nat → Pl) (lam : Nat → Nat) (N : Nat) : TVal → Value → Prop
  | .v x, V => VR σ N x V
  | .lp i o, V => V = .pointer (some ⟨lam i, o, none⟩)
def EnvRel (σ : Nat → Pl) (lam : Nat → Nat) (N L : Nat) (env : List TVal) (tmps : Array Value) : Prop :=
  tmps.size = env.length ∧ (∀ (i : Nat) (t : TVal) (V : Value), env[i]? = some t → tmps[i]? = some V → TR σ lam N t V) ∧ ∀ (i k o : Nat), env[i]? = some (.lp k o) → k < L
structure Rel (G : Nat → Option (List AVal)) (σ : Nat → Pl) (lam : Nat → Nat) (st : St) (w : World) (a : Act) : Prop where
  heap : HeapRel G σ st.heap w
  loc : LocRel G σ lam st.loc st.heap w
  env : EnvRel σ lam st.heap.next st.loc.length st.env a.tmps
  defers : a.defers = []
inductive AExit where
  | normal
  | exit (id : Nat)
  | goto (l : Nat)
  | ret
  | panic (v : AVal)
inductive ExR (σ : Nat → Pl) (N : Nat) : AExit → Exit → Prop where
  | normal : ExR σ N .normal .normal
  | exit (id : Nat) : ExR σ N (.exit id) (.exit id)
  | goto (l : Nat) : ExR σ N (.goto l) (.goto l)
  | ret : ExR σ N .ret .ret
  | panic (v : AVal) (V : Value) (h : VR σ N v V) : ExR σ N (.panic v) (.panic [{ v := V, recovered := false }])
def FL (σ : Nat → Pl) (lam : Nat → Nat) (st : St) (g : Nat) : Prop := Foot σ st.heap g ∨ ∃ i b, st.loc[i]? = some b ∧ b.live = true ∧ lam i = g
def OL (σ : Nat → Pl) (lam : Nat → Nat) (st : St) (g : Nat) : Prop := Own σ st.heap g ∨ ∃ i b, st.loc[i]? = some b ∧ b.live = true ∧ lam i = g
/-- How a piece of a function's text ends: at a state that K lets in. -/
structure AQ1 (G : Nat → Option (List AVal)) (σ : Nat → Pl) (lam : Nat → Nat) (st : St) (w : World) (x : AExit) (st' : St) (e : Exit) (a' : Act) (w' : World) (σ' : Nat → Pl) (lam' : Nat → Nat) : Prop where
  ex : ExR σ' st'.heap.next x e
  rel : Rel G σ' lam' st' w' a'
  agree : ∀ b, b < st.heap.next → σ' b = σ b
  next : st.heap.next ≤ st'.heap.next
  len : st.loc.length ≤ st'.loc.length
  same : ∀ i, i < st.loc.length → lam' i = lam i
  evo : Evo (FL σ lam st) (OL σ lam st) (FL σ' lam' st') (OL σ' lam' st') w w'
def AQ (G : Nat → Option (List AVal)) (K : AExit → St → Prop) (σ : Nat → Pl) (lam : Nat → Nat) (st : St) (w : World) (e : Exit) (a' : Act) (w' : World) : Prop :=
  ∃ σ' lam' x st', K x st' ∧ AQ1 G σ lam st w x st' e a' w' σ' lam'
def AW (P : Program) (G : Nat → Option (List AVal)) (c : Code) (K : AExit → St → Prop) (st : St) : Prop :=
  ∀ σ lam w a, Rel G σ lam st w a → c.wp P (AQ G K σ lam st w) a w
/-- A loop whose body is about to be gone through. -/
def LoopW (P : Program) (c : Code) (Q : Exit → Act → World → Prop) (a : Act) (w : World) : Prop :=
  ∀ (b : Frame) (k : List Item) (cs : List Frame), ∃ e a' w', Q e a' w' ∧ Arrives P (lone (b.at a (.code c :: .inLoop c :: k)) cs w) b k cs e a' w'
def AL (P : Program) (G : Nat → Option (List AVal)) (c : Code) (K : AExit → St → Prop) (st : St) : Prop :=
  ∀ σ lam w a, Rel G σ lam st w a → LoopW P c (AQ G K σ lam st w) a w
theorem LoopW.wp {P : Program} {c : Code} {Q : Exit → Act → World → Prop} {a : Act} {w : World} (h : LoopW P c Q a w) : (Code.loop c).wp P Q a w := fun b k cs =>
  let ⟨e, a', w', hq, harr⟩ := h b k cs
  ⟨e, a', w', hq, .of_steps (.one step_loop) harr⟩
theorem LoopW.round {P : Program} {c : Code} {Q : Exit → Act → World → Prop} {a : Act} {w : World} (h : c.wp P (Exit.then (LoopW P c Q) Q) a w) : LoopW P c Q a w := by
  intro b k cs
  obtain ⟨e, a₁, w₁, hq, harr⟩ := h b (.inLoop c :: k) cs
  cases e with
  | normal =>
    obtain ⟨e₂, a₂, w₂, hq₂, harr₂⟩ := hq b k cs
    exact ⟨e₂, a₂, w₂, hq₂, .of_steps (Steps.trans harr (.one step_inLoop)) harr₂⟩
  | exit id => exact ⟨_, a₁, w₁, hq, .pass (x := .inLoop c) rfl (fun _ _ => .inl (by simp)) harr⟩
  | goto l => exact ⟨_, a₁, w₁, hq, .pass (x := .inLoop c) rfl (fun _ _ => .inl (by simp)) harr⟩
  | ret => exact ⟨_, a₁, w₁, hq, .pass (x := .inLoop c) rfl (fun _ _ => .inl (by simp)) harr⟩
  | panic ch => exact ⟨_, a₁, w₁, hq, .pass (x := .inLoop c) rfl (fun _ _ => .inl (by simp)) harr⟩
  | outgrown => exact ⟨_, a₁, w₁, hq, .pass (x := .inLoop c) rfl (fun _ _ => .inl (by simp)) harr⟩
theorem LoopW.mono {P : Program} {c : Code} {Q Q' : Exit → Act → World → Prop} {a : Act} {w : World} (h : LoopW P c Q a w) (hq : ∀ e a w, Q e a w → Q' e a w) : LoopW P c Q' a w := fun b k cs =>
  let ⟨e, a', w', q, r⟩ := h b k cs
  ⟨e, a', w', hq _ _ _ q, r⟩
section rules
variable {P : Program} {G : Nat → Option (List AVal)} {K : AExit → St → Prop} {st : St}
theorem AQ1.refl {σ : Nat → Pl} {lam : Nat → Nat} {w : World} {x : AExit} {e : Exit} {a : Act} (hx : ExR σ st.heap.next x e) (h : Rel G σ lam st w a) : AQ1 G σ lam st w x st e a w σ lam :=
  ⟨hx, h, fun _ _ => rfl, Nat.le_refl _, Nat.le_refl _, fun _ _ => rfl, Evo.refl _ _ _⟩
theorem AQ1.trans {σ σ1 σ2 : Nat → Pl} {lam lam1 lam2 : Nat → Nat} {w w1 w2 : World} {x1 x2 : AExit} {e1 e2 : Exit} {a1 a2 : Act} {st1 st2 : St}
    (h : AQ1 G σ lam st w x1 st1 e1 a1 w1 σ1 lam1) (k : AQ1 G σ1 lam1 st1 w1 x2 st2 e2 a2 w2 σ2 lam2) : AQ1 G σ lam st w x2 st2 e2 a2 w2 σ2 lam2 where
  ex := k.ex
  rel := k.rel
  agree b hb := (k.agree b (Nat.lt_of_lt_of_le hb h.next)).trans (h.agree b hb)
  next := Nat.le_trans h.next k.next
  len := Nat.le_trans h.len k.len
  same i hi := (k.same i (Nat.lt_of_lt_of_le hi h.len)).trans (h.same i hi)
  evo := h.evo.trans k.evo
theorem AQ.trans {σ σ1 : Nat → Pl} {lam lam1 : Nat → Nat} {w w1 : World} {x1 : AExit} {e1 : Exit} {a1 : Act} {st1 : St} {K : AExit → St → Prop}
    (h : AQ1 G σ lam st w x1 st1 e1 a1 w1 σ1 lam1) {e2 : Exit} {a2 : Act} {w2 : World} (k : AQ G K σ1 lam1 st1 w1 e2 a2 w2) : AQ G K σ lam st w e2 a2 w2 :=
  let ⟨σ2, lam2, x2, st2, hK, hk⟩ := k
  ⟨σ2, lam2, x2, st2, hK, h.trans hk⟩
theorem AW.mono {c : Code} {K' : AExit → St → Prop} (h : AW P G c K st) (hk : ∀ x s, K x s → K' x s) : AW P G c K' st := fun σ lam w a hr =>
  wp_mono (h σ lam w a hr) fun _ _ _ ⟨σ', lam', x, s, hK, q⟩ => ⟨σ', lam', x, s, hk _ _ hK, q⟩
theorem AW.skip (h : K .normal st) : AW P G .skip K st := fun σ lam w a hr => wp_skip ⟨σ, lam, .normal, st, h, .refl .normal hr⟩
theorem AW.label {l : Nat} (h : K .normal st) : AW P G (.label l) K st := fun σ lam w a hr => wp_label ⟨σ, lam, .normal, st, h, .refl .normal hr⟩
theorem AW.exit {id : Nat} (h : K (.exit id) st) : AW P G (.exit id) K st := fun σ lam w a hr => wp_exit ⟨σ, lam, .exit id, st, h, .refl (.exit id) hr⟩
theorem AW.goto {id : Nat} (h : K (.goto id) st) : AW P G (.goto id) K st := fun σ lam w a hr => wp_goto ⟨σ, lam, .goto id, st, h, .refl (.goto id) hr⟩
theorem AW.ret (h : K .ret st) : AW P G .ret K st := fun σ lam w a hr => wp_ret ⟨σ, lam, .ret, st, h, .refl .ret hr⟩
/-- Behind a first part. -/
def Then (N : St → Prop) (K : AExit → St → Prop) : AExit → St → Prop
  | .normal, s => N s
  | x, s => K x s
theorem then_of {Nw : Act → World → Prop} {σ : Nat → Pl} {lam : Nat → Nat} {w : World} {N : St → Prop} {e : Exit} {a' : Act} {w' : World}
    (h : AQ G (Then N K) σ lam st w e a' w')
    (hn : ∀ σ' lam' st', N st' → AQ1 G σ lam st w .normal st' .normal a' w' σ' lam' → Nw a' w') : Exit.then Nw (AQ G K σ lam st w) e a' w' := by
  obtain ⟨σ', lam', x, st', hK, q⟩ := h
  have hx := q.ex
  cases x <;> cases hx <;> first | exact hn _ _ _ hK q | exact ⟨σ', lam', _, st', hK, q⟩
theorem AW.seq {x y : Code} (h : AW P G x (Then (AW P G y K) K) st) : AW P G (.seq x y) K st := fun σ lam w a hr =>
  wp_seq (wp_mono (h σ lam w a hr) fun e a' w' hq => then_of hq fun σ' lam' st' hN q => wp_mono (hN σ' lam' w' a' q.rel) fun e2 a2 w2 h2 => AQ.trans q h2)
theorem AL.round {c : Code} (h : AW P G c (Then (AL P G c K) K) st) : AL P G c K st := fun σ lam w a hr =>
  LoopW.round (wp_mono (h σ lam w a hr) fun e a' w' hq => then_of hq fun σ' lam' st' hN q => LoopW.mono (hN σ' lam' w' a' q.rel) fun e2 a2 w2 h2 => AQ.trans q h2)
theorem AW.loop {c : Code} (h : AL P G c K st) : AW P G (.loop c) K st := fun σ lam w a hr => (h σ lam w a hr).wp
theorem AL.mono {c : Code} {K' : AExit → St → Prop} (h : AL P G c K st) (hk : ∀ x s, K x s → K' x s) : AL P G c K' st := fun σ lam w a hr =>
  (h σ lam w a hr).mono fun _ _ _ ⟨σ', lam', x, s, hK, q⟩ => ⟨σ', lam', x, s, hk _ _ hK, q⟩
def InBlock (id : Nat) (K : AExit → St → Prop) : AExit → St → Prop
  | .exit i, s => if i = id then K .normal s else K (.exit i) s
  | x, s => K x s
theorem AW.block {id : Nat} {c : Code} (h : AW P G c (InBlock id K) st) : AW P G (.block id c) K st := fun σ lam w a hr =>
  wp_block (wp_mono (h σ lam w a hr) fun e a' w' ⟨σ', lam', x, st', hK, q⟩ => by
    have hx := q.ex
    cases x <;> cases hx <;> try exact ⟨σ', lam', _, st', hK, q⟩
    rename_i i
    simp only [InBlock] at hK
    simp only [Exit.inBlock]
    split
    · rename_i hi
      rw [if_pos hi] at hK
      exact ⟨σ', lam', .normal, st', hK, ⟨.normal, q.rel, q.agree, q.next, q.len, q.same, q.evo⟩⟩
    · rename_i hi
      rw [if_neg hi] at hK
      exact ⟨σ', lam', _, st', hK, q⟩)
/-- What an operand of the machine's text is. -/
def ofConst : Value → TVal
  | .bool b => .v (.bool b)
  | .int k n => .v (.int k n)
  | .string s => .v (.str s.data.toList)
  | .pointer none => .v .nilptr
  | .slice none 0 0 => .v .nilsl
  | .map none => .v .nilmap
  | .nilFunc => .v .nilfunc
  | .nilIface => .v .nilif
  | _ => .v .undef
def St.ev (st : St) : Operand → TVal
  | .tmp t => (st.env[t]?).getD (.v .undef)
  | .const v => ofConst v
  | .global g => .v (.gptr g 0)
  | .func f => .v (.func (.func f) [] [])
theorem ofConst_rel (σ : Nat → Pl) (lam : Nat → Nat) (N : Nat) (V : Value) : TR σ lam N (ofConst V) V := by
  unfold ofConst
  split <;> simp only [TR] <;> constructor
theorem ev_rel {σ : Nat → Pl} {lam : Nat → Nat} {w : World} {a : Act} (h : Rel G σ lam st w a) (x : Operand) : TR σ lam st.heap.next (st.ev x) (a.eval x) := by
  cases x with
  | tmp t =>
    simp only [St.ev, Act.eval]
    rcases Nat.lt_or_ge t st.env.length with ht | ht
    · have ht' : t < a.tmps.size := by rw [h.env.1]; exact ht
      have := h.env.2.1 t st.env[t] a.tmps[t] (by simp [ht]) (by simp [ht'])
      simpa [ht, ht'] using this
    · simp [List.getElem?_eq_none ht]
      exact .undef _
  | const v => exact ofConst_rel _ _ _ _
  | global g => exact .gptr g 0
  | func f => exact .func _ _ _ _ _ (by simp) (by simp) (by simp) (by simp)
theorem AW.cond {c : Operand} {x y : Code} {t : Bool} (hc : st.ev c = .v (.bool t)) (h : AW P G (if t then x else y) K st) : AW P G (.cond c x y) K st := fun σ lam w a hr => by
  have := ev_rel hr c
  rw [hc] at this
  have hv : a.eval c = .bool t := by
    generalize a.eval c = V at this
    cases this; rfl
  exact wp_cond hv (h σ lam w a hr)
end rules
end Go.Abs
namespace Go.Abs
section
variable {P : Program} {G : Nat → Option (List AVal)} {st : St}
def St.put (st : St) (d : Option Tmp) (t : TVal) : St :=
  match d with
  | some i => { st with env := st.env.set i t }
  | none => st
theorem St.put_loc (st : St) (d : Option Tmp) (t : TVal) : (st.put d t).loc = st.loc := by cases d <;> rfl
theorem St.put_heap (st : St) (d : Option Tmp) (t : TVal) : (st.put d t).heap = st.heap := by cases d <;> rfl
theorem EnvRel.set {σ : Nat → Pl} {lam : Nat → Nat} {N L : Nat} {env : List TVal} {tmps : Array Value} (h : EnvRel σ lam N L env tmps) (d : Nat) {t : TVal} {V : Value} (ht : TR σ lam N t V) (hl : ∀ k o, t = .lp k o → k < L) :
    EnvRel σ lam N L (env.set d t) (tmps.setIfInBounds d V) := by
  refine ⟨by simp [h.1], fun i t' V' ht' hV' => ?_, fun i k o hi => ?_⟩
  · rw [List.getElem?_set] at ht'
    rw [Array.getElem?_setIfInBounds] at hV'
    by_cases hd : d = i
    · subst hd
      rw [if_pos rfl] at ht' hV'
      split at ht' <;> simp at ht'
      split at hV' <;> simp at hV'
      subst ht'; subst hV'; exact ht
    · rw [if_neg hd] at ht' hV'
      exact h.2.1 i t' V' ht' hV'
  · rw [List.getElem?_set] at hi
    by_cases hd : d = i
    · subst hd
      rw [if_pos rfl] at hi
      split at hi <;> simp at hi
      exact hl k o hi
    · rw [if_neg hd] at hi
      exact h.2.2 i k o hi
/-- How an operation ends, its slot not yet written. -/
structure OR (G : Nat → Option (List AVal)) (σ : Nat → Pl) (lam : Nat → Nat) (st : St) (w : World) (a : Act) (t : TVal) (st' : St) (V : Value) (w' : World) (σ' : Nat → Pl) (lam' : Nat → Nat) : Prop where
  q : AQ1 G σ lam st w .normal st' .normal a w' σ' lam'
  tr : TR σ' lam' st'.heap.next t V
  lp : ∀ k o, t = .lp k o → k < st'.loc.length
theorem OR.put {σ σ' : Nat → Pl} {lam lam' : Nat → Nat} {w w' : World} {a : Act} {t : TVal} {st' : St} {V : Value} (h : OR G σ lam st w a t st' V w' σ' lam') (d : Option Tmp) :
    AQ1 G σ lam st w .normal (st'.put d t) .normal (a.put d V) w' σ' lam' := by
  obtain ⟨⟨ex, ⟨hh, hl, he, hd⟩, agree, next, len, same, evo⟩, tr, lp⟩ := h
  cases d with
  | none => exact ⟨ex, ⟨hh, hl, he, hd⟩, agree, next, len, same, evo⟩
  | some d => exact ⟨.normal, ⟨hh, hl, he.set d tr lp, hd⟩, agree, next, len, same, evo⟩
/-- The operations of a region, those of the list, one behind the other. -/
def AOps (P : Program) (G : Nat → Option (List AVal)) (ops : Array Oper) (K : AExit → St → Prop) (l : List Nat) (st : St) : Prop :=
  ∀ σ lam w a, Rel G σ lam st w a → ∀ Q : Exit → Act → World → Prop, (∀ e a' w', AQ G K σ lam st w e a' w' → Q e a' w') → wpOps P ops Q l a w
/-- One operation: what its slot is to hold, and the state; or a panic. -/
def AO (P : Program) (G : Nat → Option (List AVal)) (o : Oper) (K : TVal → St → Prop) (Kx : AVal → St → Prop) (st : St) : Prop :=
  ∀ σ lam w a, Rel G σ lam st w a → ∀ (next : Act → World → Prop) (Q : Exit → Act → World → Prop),
    (∀ t st' V w' σ' lam', K t st' → OR G σ lam st w a t st' V w' σ' lam' → next (a.put o.dst V) w') →
    (∀ v st' V w' σ' lam', Kx v st' → VR σ' st'.heap.next v V → AQ1 G σ lam st w .normal st' .normal a w' σ' lam' → Q (.panic [{ v := V, recovered := false }]) a w') →
    o.wp P a w next Q
theorem AOps.nil {ops : Array Oper} {K : AExit → St → Prop} (h : K .normal st) : AOps P G ops K [] st := fun σ lam w a hr Q hQ =>
  hQ _ _ _ ⟨σ, lam, .normal, st, h, .refl .normal hr⟩
/-- Is an operation wanted? -/
def ayielded (ops : Array Oper) (st : St) (j : Nat) : Option TVal := ((ops[j]?).bind (·.dst)).map fun d => st.ev (.tmp d)
theorem AOps.step {ops : Array Oper} {K : AExit → St → Prop} {i : Nat} {rest : List Nat} {o : Oper} (ho : ops[i]? = some o) (hw : ∀ σ lam w a, Rel G σ lam st w a → Region.wanted o (yielded ops a.tmps) = true)
    (h : AO P G o (fun t s => AOps P G ops K rest (s.put o.dst t)) (fun v s => K (.panic v) s) st) : AOps P G ops K (i :: rest) st := fun σ lam w a hr Q hQ => by
  simp only [wpOps, ho, hw σ lam w a hr, if_true]
  refine .inl (h σ lam w a hr _ _ (fun t st' V w' σ' lam' hK hor => ?_) (fun v st' V w' σ' lam' hK hv q => ?_))
  · have q := hor.put o.dst
    exact hK σ' lam' w' _ q.rel Q fun e a2 w2 h2 => hQ _ _ _ (AQ.trans q h2)
  · exact hQ _ _ _ ⟨σ', lam', .panic v, st', hK, ⟨.panic v V hv, q.rel, q.agree, q.next, q.len, q.same, q.evo⟩⟩
theorem AOps.pass {ops : Array Oper} {K : AExit → St → Prop} {i : Nat} {rest : List Nat} {o : Oper} (ho : ops[i]? = some o) (hw : ∀ σ lam w a, Rel G σ lam st w a → Region.wanted o (yielded ops a.tmps) = false)
    (h : AOps P G ops K rest (st.put o.dst (.v (.tup [])))) : AOps P G ops K (i :: rest) st := fun σ lam w a hr Q hQ => by
  simp only [wpOps, ho, hw σ lam w a hr]
  have hor : OR G σ lam st w a (.v (.tup [])) st undef w σ lam := ⟨.refl .normal hr, .tup _ _ rfl (by simp), fun k o h => by cases h⟩
  have q := hor.put o.dst
  exact h σ lam w _ q.rel Q fun e a2 w2 h2 => hQ _ _ _ (AQ.trans q h2)
theorem wanted_none {o : Oper} (h : o.guard = none) (y : Nat → Option Bool) : Region.wanted o y = true := by simp [Region.wanted, h]
theorem yielded_bool {σ : Nat → Pl} {lam : Nat → Nat} {w : World} {a : Act} (hr : Rel G σ lam st w a) {ops : Array Oper} {j : Nat} {b : Bool} (h : ayielded ops st j = some (.v (.bool b))) : yielded ops a.tmps j = some b := by
  unfold ayielded at h
  unfold yielded
  cases hd : (ops[j]?).bind (·.dst) with
  | none => rw [hd] at h; cases h
  | some d =>
    rw [hd] at h
    simp only [Option.map_some, Option.some.injEq, St.ev] at h
    rcases Nat.lt_or_ge d st.env.length with ht | ht
    · have ht' : d < a.tmps.size := by rw [hr.env.1]; exact ht
      have h2 := hr.env.2.1 d st.env[d] a.tmps[d] (by simp [ht]) (by simp [ht'])
      simp [ht] at h
      rw [h] at h2
      simp only [Option.bind_some]
      simp only [ht', getElem?_pos]
      generalize a.tmps[d] = V at h2
      cases h2
      rfl
    · rw [List.getElem?_eq_none ht] at h
      simp at h
theorem yielded_skip {σ : Nat → Pl} {lam : Nat → Nat} {w : World} {a : Act} (hr : Rel G σ lam st w a) {ops : Array Oper} {j : Nat} (h : ayielded ops st j = some (.v (.tup []))) : yielded ops a.tmps j = none := by
  unfold ayielded at h
  unfold yielded
  cases hd : (ops[j]?).bind (·.dst) with
  | none => rfl
  | some d =>
    rw [hd] at h
    simp only [Option.map_some, Option.some.injEq, St.ev] at h
    rcases Nat.lt_or_ge d st.env.length with ht | ht
    · have ht' : d < a.tmps.size := by rw [hr.env.1]; exact ht
      have h2 := hr.env.2.1 d st.env[d] a.tmps[d] (by simp [ht]) (by simp [ht'])
      simp [ht] at h
      rw [h] at h2
      simp only [Option.bind_some]
      simp only [ht', getElem?_pos]
      generalize a.tmps[d] = V at h2
      cases h2
      rfl
    · rw [List.getElem?_eq_none ht] at h
      simp at h
theorem AW.region {id : Nat} {ops : Array Oper} {K : AExit → St → Prop} (h : AOps P G ops K (List.range ops.size) st) : AW P G (.region id ops false) K st := fun σ lam w a hr =>
  wp_region (h σ lam w a hr _ fun _ _ _ h => h)
/-- Slots of which nothing is to be known any more. -/
def St.forget (st : St) (l : List Nat) : St := { st with env := l.foldl (fun e i => e.set i (.v .undef)) st.env }
theorem EnvRel.forget1 {σ : Nat → Pl} {lam : Nat → Nat} {N L : Nat} {env : List TVal} {tmps : Array Value} (h : EnvRel σ lam N L env tmps) (d : Nat) : EnvRel σ lam N L (env.set d (.v .undef)) tmps := by
  refine ⟨by simp [h.1], fun i t' V' ht' hV' => ?_, fun i k o hi => ?_⟩
  · rw [List.getElem?_set] at ht'
    by_cases hd : d = i
    · subst hd
      rw [if_pos rfl] at ht'
      split at ht' <;> simp at ht'
      subst ht'
      exact .undef _
    · rw [if_neg hd] at ht'
      exact h.2.1 i t' V' ht' hV'
  · rw [List.getElem?_set] at hi
    by_cases hd : d = i
    · subst hd
      rw [if_pos rfl] at hi
      split at hi <;> simp at hi
    · rw [if_neg hd] at hi
      exact h.2.2 i k o hi
theorem EnvRel.forget {σ : Nat → Pl} {lam : Nat → Nat} {N L : Nat} {tmps : Array Value} : ∀ (l : List Nat) {env : List TVal}, EnvRel σ lam N L env tmps → EnvRel σ lam N L (l.foldl (fun e i => e.set i (.v .undef)) env) tmps
  | [], _, h => h
  | d :: l, _, h => EnvRel.forget l (h.forget1 d)
theorem AQ1.forget {σ σ' : Nat → Pl} {lam lam' : Nat → Nat} {w w' : World} {x : AExit} {e : Exit} {a' : Act} {st' : St} (h : AQ1 G σ lam st w x st' e a' w' σ' lam') (l : List Nat) : AQ1 G σ lam st w x (st'.forget l) e a' w' σ' lam' :=
  ⟨h.ex, ⟨h.rel.heap, h.rel.loc, h.rel.env.forget l, h.rel.defers⟩, h.agree, h.next, h.len, h.same, h.evo⟩
theorem AW.forget {c : Code} {K : AExit → St → Prop} (l : List Nat) (h : AW P G c (fun x s => K x (s.forget l)) st) : AW P G c K st := fun σ lam w a hr =>
  wp_mono (h σ lam w a hr) fun _ _ _ ⟨σ', lam', x, s, hK, q⟩ => ⟨σ', lam', x, s.forget l, hK, q.forget l⟩
/-- An operation that yields a value and leaves the world. -/
def AV (P : Program) (G : Nat → Option (List AVal)) (o : Oper) (t : TVal) (st : St) : Prop :=
  ∀ σ lam w a, Rel G σ lam st w a → ∃ V, (execOp a.eval o).run P w = .ok (.value V) w ∧ TR σ lam st.heap.next t V ∧ ∀ k o, t = .lp k o → k < st.loc.length
def AVK (P : Program) (G : Nat → Option (List AVal)) (o : Oper) (K : TVal → St → Prop) (st : St) : Prop := ∃ t, K t st ∧ AV P G o t st
theorem AVK.value {o : Oper} {K : TVal → St → Prop} {t : TVal} (hK : K t st)
    (h : ∀ σ lam w a, Rel G σ lam st w a → ∃ V, (execOp a.eval o).run P w = .ok (.value V) w ∧ TR σ lam st.heap.next t V ∧ ∀ k o, t = .lp k o → k < st.loc.length) : AVK P G o K st := ⟨t, hK, h⟩
theorem AVK.ao {o : Oper} {K : TVal → St → Prop} {Kx : AVal → St → Prop} (h : AVK P G o K st) : AO P G o K Kx st :=
  fun σ lam w a hr next Q hn _ => by
    obtain ⟨t, hK, h⟩ := h
    obtain ⟨V, h1, h2, h3⟩ := h σ lam w a hr
    unfold Oper.wp
    rw [h1]
    exact hn t st V w σ lam hK ⟨.refl .normal hr, h2, h3⟩
/-- An operation that yields a value and leaves a later world. -/
theorem AO.valueW {o : Oper} {K : TVal → St → Prop} {Kx : AVal → St → Prop} {t : TVal} {st' : St} (hK : K t st')
    (h : ∀ σ lam w a, Rel G σ lam st w a → ∃ V w' σ' lam', (execOp a.eval o).run P w = .ok (.value V) w' ∧ OR G σ lam st w a t st' V w' σ' lam') : AO P G o K Kx st :=
  fun σ lam w a hr next Q hn _ => by
    obtain ⟨V, w', σ', lam', h1, h2⟩ := h σ lam w a hr
    unfold Oper.wp
    rw [h1]
    exact hn t st' V w' σ' lam' hK h2
/-- An operation that yields nothing. -/
theorem AO.skipW {o : Oper} {K : TVal → St → Prop} {Kx : AVal → St → Prop} {st' : St} (hK : K (.v (.tup [])) st')
    (h : ∀ σ lam w a, Rel G σ lam st w a → ∃ w' σ' lam', (execOp a.eval o).run P w = .ok .skip w' ∧ AQ1 G σ lam st w .normal st' .normal a w' σ' lam') : AO P G o K Kx st :=
  fun σ lam w a hr next Q hn _ => by
    obtain ⟨w', σ', lam', h1, h2⟩ := h σ lam w a hr
    unfold Oper.wp
    rw [h1]
    exact hn (.v (.tup [])) st' undef w' σ' lam' hK ⟨h2, .tup _ _ rfl (by simp), fun k o h => by cases h⟩
end
end Go.Abs
namespace Go.Abs
section
variable {P : Program} {G : Nat → Option (List AVal)} {st : St}
theorem EnvRel.mono {σ σ' : Nat → Pl} {lam lam' : Nat → Nat} {N N' L L' : Nat} {env : List TVal} {tmps : Array Value} (h : EnvRel σ lam N L env tmps) (hN : N ≤ N') (hσ : ∀ b, b < N → σ' b = σ b) (hL : L ≤ L') (hl : ∀ i, i < L → lam' i = lam i) :
    EnvRel σ' lam' N' L' env tmps := by
  refine ⟨h.1, fun i t V ht hV => ?_, fun i k o hi => Nat.lt_of_lt_of_le (h.2.2 i k o hi) hL⟩
  have := h.2.1 i t V ht hV
  cases t with
  | v x => exact VR.mono hN hσ this
  | lp k o =>
    have hk := h.2.2 i k o ht
    simp only [TR] at this ⊢
    rw [hl k hk]; exact this
theorem TR.mono {σ σ' : Nat → Pl} {lam lam' : Nat → Nat} {N N' L : Nat} {t : TVal} {V : Value} (h : TR σ lam N t V) (hN : N ≤ N') (hσ : ∀ b, b < N → σ' b = σ b) (hl : ∀ i, i < L → lam' i = lam i) (ht : ∀ k o, t = .lp k o → k < L) : TR σ' lam' N' t V := by
  cases t with
  | v x => exact VR.mono hN hσ h
  | lp k o =>
    simp only [TR] at h ⊢
    rw [hl k (ht k o rfl)]; exact h
theorem Foot.lt {σ : Nat → Pl} {H : AHeap} {w : World} (h : HeapRel G σ H w) {g : Nat} (hg : Foot σ H g) : g < w.heap.size := by
  obtain ⟨b, blk, hb, rfl⟩ := hg
  exact (h.blk b blk hb).size
theorem heap_alloc_old (w : World) (o : Obj) {g : Nat} (h : g < w.heap.size) : (w.alloc o).heap[g]? = w.heap[g]? := RowKit.Below.heap_alloc w o g h
theorem heap_alloc_at (w : World) (o : Obj) : (w.alloc o).heap[w.heap.size]? = some o := by
  show (w.heap.push o)[w.heap.size]? = some o
  simp
theorem HeapRel.alloc {σ : Nat → Pl} {H : AHeap} {w : World} (h : HeapRel G σ H w) (o : Obj) : HeapRel G σ H (w.alloc o) :=
  h.world (by simp) (fun g hg => heap_alloc_old w o (hg.lt h)) (fun g l hg => heap_alloc_old w o (h.glob g l hg).1)
theorem LBlkR.mono {σ σ' : Nat → Pl} {N N' g : Nat} {w w' : World} {b : LBlk} (h : LBlkR σ N g w b) (hN : N ≤ N') (hσ : ∀ b, b < N → σ' b = σ b) (hw : b.live = true → w'.heap[g]? = w.heap[g]?) : LBlkR σ' N' g w' b := by
  cases b with
  | cells l =>
    obtain ⟨cs, t, h1, h2⟩ := h
    exact ⟨cs, t, by rw [hw rfl]; exact h1, h2.mono hN hσ⟩
  | siter s pos => simp only [LBlkR] at h ⊢; rw [hw rfl]; exact h
  | mit b since seen c => exact ⟨Nat.lt_of_lt_of_le h.1 hN, by rw [hw rfl, hσ b h.1]; exact h.2⟩
  | dead => trivial
/-- The state in a later world in which nothing that it holds has turned. -/
theorem LocRel.world {σ : Nat → Pl} {lam : Nat → Nat} {loc : Loc} {H : AHeap} {w w' : World} (h : LocRel G σ lam loc H w) (hs : w.heap.size ≤ w'.heap.size)
    (hw : ∀ (i : Nat) (b : LBlk), loc[i]? = some b → b.live = true → w'.heap[lam i]? = w.heap[lam i]?) : LocRel G σ lam loc H w' :=
  ⟨fun i b hb => (h.blk i b hb).mono (Nat.le_refl _) (fun _ _ => rfl) (hw i b hb), h.far, h.inj, h.glob, fun i b hb hl => Nat.lt_of_lt_of_le (h.lt i b hb hl) hs⟩
/-- A new block of the activation's own. -/
theorem OR.newLoc {σ : Nat → Pl} {lam : Nat → Nat} {w : World} {a : Act} (hr : Rel G σ lam st w a) (nb : LBlk) (o : Obj)
    (hb : LBlkR σ st.heap.next w.heap.size (w.alloc o) nb) (hlive : nb.live = true) :
    OR G σ lam st w a (.lp st.loc.length 0) { st with loc := st.loc ++ [nb] } (.pointer (some ⟨w.heap.size, 0, none⟩)) (w.alloc o) σ (fun i => if i = st.loc.length then w.heap.size else lam i) := by
  have hlt : ∀ i, i < st.loc.length → (fun i => if i = st.loc.length then w.heap.size else lam i) i = lam i := fun i hi => by simp; omega
  have hget : ∀ (i : Nat) (b : LBlk), (st.loc ++ [nb])[i]? = some b → (i < st.loc.length ∧ st.loc[i]? = some b) ∨ (i = st.loc.length ∧ b = nb) := fun i b h => by
    rcases Nat.lt_trichotomy i st.loc.length with hi | hi | hi
    · rw [List.getElem?_append_left hi] at h
      exact .inl ⟨hi, h⟩
    · subst hi
      simp at h
      exact .inr ⟨rfl, h.symm⟩
    · rw [List.getElem?_eq_none (by simp; omega)] at h
      cases h
  refine ⟨⟨.normal, ⟨hr.heap.alloc o, ⟨?_, ?_, ?_, ?_, ?_⟩, ?_, hr.defers⟩, fun _ _ => rfl, Nat.le_refl _, by simp, hlt, ⟨rfl, rfl, rfl, by simp, ?_, ?_, ?_⟩⟩, ?_, ?_⟩
  · intro i b h
    rcases hget i b h with ⟨hi, h⟩ | ⟨rfl, rfl⟩
    · show LBlkR _ _ (if i = _ then _ else _) _ _
      rw [if_neg (by omega)]
      exact (hr.loc.blk i b h).mono (Nat.le_refl _) (fun _ _ => rfl) (fun hl => heap_alloc_old w o (hr.loc.lt i b h hl))
    · show LBlkR _ _ (if _ = _ then _ else _) _ _
      rw [if_pos rfl]
      exact hb
  · intro i b h hl
    rcases hget i b h with ⟨hi, h⟩ | ⟨rfl, rfl⟩
    · show ¬ Foot _ _ (if i = _ then _ else _)
      rw [if_neg (by omega)]
      exact hr.loc.far i b h hl
    · show ¬ Foot _ _ (if _ = _ then _ else _)
      rw [if_pos rfl]
      exact fun hf => Nat.lt_irrefl _ (hf.lt hr.heap)
  · intro i j b b' h h' hl hl' hij
    show (if i = _ then _ else _) ≠ (if j = _ then _ else _)
    rcases hget i b h with ⟨hi, h1⟩ | ⟨hi, h1⟩ <;> rcases hget j b' h' with ⟨hj, h2⟩ | ⟨hj, h2⟩
    · rw [if_neg (by omega), if_neg (by omega)]
      exact hr.loc.inj i j b b' h1 h2 hl hl' hij
    · rw [if_neg (by omega), if_pos hj]
      exact Nat.ne_of_lt (hr.loc.lt i b h1 hl)
    · rw [if_pos hi, if_neg (by omega)]
      exact (Nat.ne_of_lt (hr.loc.lt j b' h2 hl')).symm
    · omega
  · intro i b g l h hl hg
    show (if i = _ then _ else _) ≠ g
    rcases hget i b h with ⟨hi, h⟩ | ⟨rfl, rfl⟩
    · rw [if_neg (by omega)]
      exact hr.loc.glob i b g l h hl hg
    · rw [if_pos rfl]
      exact (Nat.ne_of_lt (hr.heap.glob g l hg).1).symm
  · intro i b h hl
    show (if i = _ then _ else _) < _
    rcases hget i b h with ⟨hi, h⟩ | ⟨rfl, rfl⟩
    · rw [if_neg (by omega)]
      have := hr.loc.lt i b h hl
      simp; omega
    · rw [if_pos rfl]; simp
  · exact hr.env.mono (Nat.le_refl _) (fun _ _ => rfl) (by simp) hlt
  · exact fun g hg _ => heap_alloc_old w o hg
  · rintro g (hg | ⟨i, b, h, hl, rfl⟩)
    · exact .inl (.inl hg)
    · rcases hget i b h with ⟨hi, h⟩ | ⟨rfl, rfl⟩
      · refine .inl (.inr ⟨i, b, h, hl, ?_⟩)
        simp; omega
      · right; simp
  · rintro g (hg | ⟨i, b, h, hl, rfl⟩)
    · exact .inl (.inl hg)
    · rcases hget i b h with ⟨hi, h⟩ | ⟨rfl, rfl⟩
      · refine .inl (.inr ⟨i, b, h, hl, ?_⟩)
        simp; omega
      · right; simp
  · show _ = Value.pointer (some ⟨(if _ = _ then _ else _), 0, none⟩)
    rw [if_pos rfl]
  · intro k o h
    cases h
    simp
end
end Go.Abs
namespace Go.Abs
def setBlk (w : World) (g : Nat) (o : Obj) : World := { w with heap := w.heap.setIfInBounds g o }
theorem setBlk_size (w : World) (g : Nat) (o : Obj) : (setBlk w g o).heap.size = w.heap.size := by simp [setBlk]
theorem setBlk_at (w : World) (g : Nat) (o : Obj) (h : g < w.heap.size) : (setBlk w g o).heap[g]? = some o := by simp [setBlk, h]
theorem setBlk_ne (w : World) (g g' : Nat) (o : Obj) (h : g' ≠ g) : (setBlk w g o).heap[g']? = w.heap[g']? := by
  show (w.heap.setIfInBounds g o)[g']? = _
  rw [Array.getElem?_setIfInBounds, if_neg (fun e => h e.symm)]
theorem setBlk_twice (w : World) (g : Nat) (o o' : Obj) : setBlk (setBlk w g o) g o' = setBlk w g o' := by
  simp only [setBlk]
  congr 1
  apply Array.ext_getElem?
  intro i
  simp only [Array.getElem?_setIfInBounds, Array.size_setIfInBounds]
  split
  · rfl
  · rename_i h; simp [h]
theorem setBlk_self (w : World) (g : Nat) (o : Obj) (h : w.heap[g]? = some o) : setBlk w g o = w := by
  have : w.heap.setIfInBounds g o = w.heap := by
    apply Array.ext_getElem?
    intro i
    rw [Array.getElem?_setIfInBounds]
    split
    · rename_i e; subst e
      rw [h, if_pos (Array.getElem?_eq_some_iff.1 h).1]
    · rfl
  simp only [setBlk, this]
theorem setCell_eq {w : World} {g : Nat} {cs : Array Value} {t : TypeId} {fr : Nat × Nat} (h : w.heap[g]? = some (.cells cs t fr)) (o : Nat) (v : Value) :
    w.setCell ⟨g, o, none⟩ v = setBlk w g (.cells (cs.setIfInBounds o v) t fr) := by
  simp only [World.setCell, setBlk]
  congr 1
  apply Array.ext_getElem?
  intro i
  rw [Array.getElem?_modify, Array.getElem?_setIfInBounds]
  split
  · rename_i e
    subst e
    rw [h, if_pos (Array.getElem?_eq_some_iff.1 h).1]
    simp
  · rfl
/-- Cells written one behind the other. -/
def wr (cs : Array Value) (o : Nat) : List Value → Array Value
  | [] => cs
  | v :: r => wr (cs.setIfInBounds o v) (o + 1) r
theorem wr_size : ∀ (vs : List Value) (cs : Array Value) (o : Nat), (wr cs o vs).size = cs.size
  | [], _, _ => rfl
  | v :: r, cs, o => by simp [wr, wr_size r]
theorem wr_get : ∀ (vs : List Value) (cs : Array Value) (o : Nat) (h : o + vs.length ≤ cs.size) (i : Nat), (wr cs o vs)[i]? = if o ≤ i ∧ i < o + vs.length then vs[i - o]? else cs[i]?
  | [], cs, o, h, i => by simp [wr]; omega
  | v :: r, cs, o, h, i => by
    simp only [List.length_cons] at h
    simp only [wr, List.length_cons]
    rw [wr_get r _ _ (by simp; omega) i]
    by_cases h1 : o + 1 ≤ i ∧ i < o + 1 + r.length
    · rw [if_pos h1, if_pos (by omega)]
      have : i - o = (i - (o + 1)) + 1 := by omega
      rw [this]; simp
    · rw [if_neg h1, Array.getElem?_setIfInBounds]
      by_cases h2 : o = i
      · subst h2
        rw [if_pos rfl, if_pos (by omega), if_pos (by omega)]
        simp
      · rw [if_neg h2, if_neg (by omega)]
theorem cell?_of {w : World} {g : Nat} {cs : Array Value} {t : TypeId} {fr : Nat × Nat} (h : w.heap[g]? = some (.cells cs t fr)) (o : Nat) : w.cell? ⟨g, o, none⟩ = cs[o]? := by
  simp [World.cell?, h]
theorem frozen?_of {w : World} {g : Nat} {cs : Array Value} {t : TypeId} {fr : Nat × Nat} (h : w.heap[g]? = some (.cells cs t fr)) (o : Nat) (ho : o < cs.size) (hf : ∀ i, i < cs.size → ¬ (fr.1 ≤ i ∧ i < fr.2)) : w.frozen? ⟨g, o, none⟩ = false := by
  have := hf o ho
  simp only [World.frozen?, h]
  obtain ⟨lo, hi⟩ := fr
  simp at this ⊢
  exact this
theorem add_none (g o i : Nat) : (⟨g, o, none⟩ : Addr).add i = ⟨g, o + i, none⟩ := by
  unfold Addr.add
  split
  · rename_i h; subst h; rfl
  · rfl
def one : Value → Bool
  | .agg _ => false
  | .tuple _ => false
  | _ => true
theorem run_storeCells {P : Program} {g : Nat} {t : TypeId} {fr : Nat × Nat} : ∀ (vs : List Value) (w : World) (cs : Array Value) (o i : Nat), w.heap[g]? = some (.cells cs t fr) → (∀ v ∈ vs, one v = true) → o + i + vs.length ≤ cs.size →
    (∀ i, i < cs.size → ¬ (fr.1 ≤ i ∧ i < fr.2)) → (storeCells ⟨g, o, none⟩ vs i).run P w = .ok () (setBlk w g (.cells (wr cs (o + i) vs) t fr))
  | [], w, cs, o, i, h, _, _, _ => by simp [storeCells, wr, pure, Sem.run, setBlk_self w g _ h]
  | v :: r, w, cs, o, i, h, h1, h2, h3 => by
    simp only [List.length_cons] at h2
    have hv := h1 v (by simp)
    have hlt : o + i < cs.size := by omega
    have hstep : ∀ k : Sem Unit, (Sem.store .plain ⟨g, o + i, none⟩ v k).run P w = k.run P (setBlk w g (.cells (cs.setIfInBounds (o + i) v) t fr)) := by
      intro k
      have hc : w.cell? ⟨g, o + i, none⟩ = some cs[o + i] := by rw [cell?_of h]; simp [hlt]
      have hf := frozen?_of h (o + i) hlt h3
      cases v <;> first | (simp [one] at hv; done) | (simp only [Sem.run, hc, hf, setCell_eq h]; rfl)
    show ((store ((⟨g, o, none⟩ : Addr).add i) v).bind fun _ => storeCells ⟨g, o, none⟩ r (i + 1)).run P w = _
    rw [add_none]
    show (Sem.store .plain ⟨g, o + i, none⟩ v _).run P w = _
    rw [hstep]
    have := run_storeCells (P := P) r (setBlk w g (.cells (cs.setIfInBounds (o + i) v) t fr)) (cs.setIfInBounds (o + i) v) o (i + 1) (setBlk_at _ _ _ (Array.getElem?_eq_some_iff.1 h).1) (fun u hu => h1 u (by simp [hu])) (by simp; omega) (by simpa using h3)
    show (storeCells _ r (i + 1)).run P _ = _
    rw [this, setBlk_twice]
    rfl
theorem run_loadCellsFrom {P : Program} {w : World} {g o : Nat} : ∀ (n i : Nat) (acc : Array Value), (∀ j, j < n → ∃ V, w.cell? ⟨g, o + i + j, none⟩ = some V) →
    ∃ r : Array Value, (loadCellsFrom ⟨g, o, none⟩ i n acc).run P w = .ok (acc ++ r) w ∧ r.size = n ∧ ∀ j, j < n → r[j]? = w.cell? ⟨g, o + i + j, none⟩
  | 0, i, acc, h => ⟨#[], by simp [loadCellsFrom, pure, Sem.run], rfl, fun j hj => by omega⟩
  | n + 1, i, acc, h => by
    obtain ⟨V, hV⟩ := h 0 (by omega)
    have e : ∀ j, o + (i + 1) + j = o + i + (j + 1) := fun j => by omega
    obtain ⟨r, h1, h2, h3⟩ := run_loadCellsFrom (P := P) n (i + 1) (acc.push V) (fun j hj => by
      rw [e j]; exact h (j + 1) (by omega))
    refine ⟨#[V] ++ r, ?_, by simp [h2]; omega, fun j hj => ?_⟩
    · show ((load ((⟨g, o, none⟩ : Addr).add i)).bind fun v => loadCellsFrom ⟨g, o, none⟩ (i + 1) n (acc.push v)).run P w = _
      rw [add_none]
      show (Sem.load .plain ⟨g, o + i, none⟩ _).run P w = _
      simp only [Nat.add_zero] at hV
      simp only [Sem.run, hV]
      show (loadCellsFrom _ (i + 1) n (acc.push V)).run P w = _
      rw [h1]
      simp
    · rcases j with _ | j
      · rw [Array.getElem?_append_left (by simp)]
        simp only [Nat.add_zero] at hV ⊢
        rw [hV]; rfl
      · rw [Array.getElem?_append_right (by simp)]
        simp only [List.size_toArray, List.length_singleton, Nat.add_sub_cancel]
        rw [h3 j (by omega), e j]
theorem run_loadCells {P : Program} {w : World} {g o n : Nat} (h : ∀ j, j < n → ∃ V, w.cell? ⟨g, o + j, none⟩ = some V) :
    ∃ r : Array Value, (loadCells ⟨g, o, none⟩ n).run P w = .ok r w ∧ r.size = n ∧ ∀ j, j < n → r[j]? = w.cell? ⟨g, o + j, none⟩ := by
  obtain ⟨r, h1, h2, h3⟩ := run_loadCellsFrom (P := P) (w := w) (g := g) (o := o) n 0 #[] (by simpa using h)
  exact ⟨r, by simpa [loadCells] using h1, h2, by simpa using h3⟩
section
variable {P : Program} {G : Nat → Option (List AVal)} {st : St}
/-- The cells to which an address leads, and the place among them. -/
def St.at (st : St) (G : Nat → Option (List AVal)) : TVal → Option (List AVal × Nat)
  | .lp i o => match st.loc[i]? with
    | some (.cells l) => some (l, o)
    | _ => none
  | .v (.ptr b o) => match st.heap.get b with
    | some (.cells _ l _) => some (l, o)
    | some (.tcells _ l) => some (l, o)
    | _ => none
  | .v (.gptr g o) => (G g).map fun l => (l, o)
  | _ => none
theorem at_rel {σ : Nat → Pl} {lam : Nat → Nat} {w : World} {a : Act} (hr : Rel G σ lam st w a) {t : TVal} {V : Value} (ht : TR σ lam st.heap.next t V) {l : List AVal} {o : Nat} (h : st.at G t = some (l, o)) :
    ∃ g off, V = .pointer (some ⟨g, off, none⟩) ∧ ∀ (i : Nat) (v : AVal), l[o + i]? = some v → ∃ U, w.cell? ⟨g, off + i, none⟩ = some U ∧ VR σ st.heap.next v U := by
  unfold St.at at h
  split at h
  · rename_i i o'
    split at h
    · rename_i l' hl
      simp only [Option.some.injEq, Prod.mk.injEq] at h
      obtain ⟨rfl, rfl⟩ := h
      obtain ⟨cs, ty, h1, h2⟩ := hr.loc.blk i _ hl
      refine ⟨lam i, o', ht, fun j v hv => ?_⟩
      have hj : o' + j < cs.size := by rw [h2.1]; exact (List.getElem?_eq_some_iff.1 hv).1
      exact ⟨cs[o' + j], by rw [cell?_of h1]; simp [hj], h2.2 _ v _ hv (by simp [hj])⟩
    · cases h
  · rename_i b o'
    split at h
    · rename_i es l' rw hb
      simp only [Option.some.injEq, Prod.mk.injEq] at h
      obtain ⟨rfl, rfl⟩ := h
      have hV : V = .pointer (some ⟨(σ b).g, (σ b).off + o', none⟩) := by cases ht; rfl
      refine ⟨_, _, hV, fun j v hv => ?_⟩
      have hk := hr.heap.blk b _ hb
      cases rw with
      | false =>
        obtain ⟨U, h1, h2⟩ := hk.2 _ v hv
        exact ⟨U, by rw [Nat.add_assoc]; exact h1, h2⟩
      | true =>
        obtain ⟨cs, ty, fr, h1, _, _, _, h5⟩ := hk
        obtain ⟨U, h6, h7⟩ := h5 _ v hv
        exact ⟨U, by rw [cell?_of h1, Nat.add_assoc]; exact h6, h7⟩
    · rename_i ty l' hb
      simp only [Option.some.injEq, Prod.mk.injEq] at h
      obtain ⟨rfl, rfl⟩ := h
      have hV : V = .pointer (some ⟨(σ b).g, (σ b).off + o', none⟩) := by cases ht; rfl
      refine ⟨_, _, hV, fun j v hv => ?_⟩
      obtain ⟨cs, fr, h1, _, _, _, h5⟩ := hr.heap.blk b _ hb
      obtain ⟨U, h6, h7⟩ := h5 _ v hv
      exact ⟨U, by rw [cell?_of h1, Nat.add_assoc]; exact h6, h7⟩
    · cases h
  · rename_i g o'
    cases hg : G g with
    | none => simp [hg] at h
    | some l' =>
      simp only [hg, Option.map_some, Option.some.injEq, Prod.mk.injEq] at h
      obtain ⟨rfl, rfl⟩ := h
      have hV : V = .pointer (some ⟨g, o', none⟩) := by cases ht; rfl
      refine ⟨_, _, hV, fun j v hv => ?_⟩
      obtain ⟨U, h1, h2⟩ := (hr.heap.glob g l' hg).2 _ v hv
      exact ⟨U, h1, h2.mono (Nat.zero_le _) (fun b hb => by omega)⟩
  · cases h
end
end Go.Abs
namespace Go.Abs
/-- A test: both ways, each with the test's answer written down. -/
def BCase (b : Bool) (p q : Prop) : Prop := match b with
  | true => p
  | false => q
@[simp] theorem BCase_true (p q : Prop) : BCase true p q = p := rfl
@[simp] theorem BCase_false (p q : Prop) : BCase false p q = q := rfl
theorem BCase.of {b : Bool} {p q : Prop} (h1 : b = true → p) (h2 : b = false → q) : BCase b p q := by cases b <;> simp_all
theorem BCase.ite {b : Bool} {p q : Prop} (h : if b = true then p else q) : BCase b p q := by cases b <;> simp_all
/-- One cell's value. -/
def okCell : AVal → Bool
  | .undef => false
  | .agg _ => false
  | .tup _ => false
  | _ => true
theorem okCell.one {σ : Nat → Pl} {N : Nat} {v : AVal} {V : Value} (h : VR σ N v V) (hv : okCell v = true) : one V = true := by
  cases h <;> first | rfl | (simp [okCell] at hv)
/-- The cells of a value. -/
def acells : AVal → Option (List AVal)
  | .undef => none
  | .tup _ => none
  | .agg l => some l
  | v => some [v]
theorem acells_rel {σ : Nat → Pl} {N : Nat} {v : AVal} {V : Value} {l : List AVal} (h : VR σ N v V) (hl : acells v = some l) : VRs σ N l V.cells := by
  cases h with
  | agg l' cs hs hh =>
    simp only [acells, Option.some.injEq] at hl
    subst hl
    exact ⟨hs, hh⟩
  | undef V => cases hl
  | tup l' cs hs hh => cases hl
  | _ =>
    simp only [acells, Option.some.injEq] at hl
    subst hl
    refine ⟨rfl, fun i v V hv hV => ?_⟩
    rcases i with _ | i
    · simp [Value.cells] at hv hV
      subst hv; subst hV
      first
        | exact .bool _
        | exact .int _ _
        | exact .str _
        | exact .ptr _ _ (by assumption)
        | exact .nilptr
        | exact .gptr _ _
        | exact .slx _ _ _ _ (by assumption) (by assumption)
        | exact .slr _ _ _ _ (by assumption) (by assumption)
        | exact .esl _ _
        | exact .nilsl
        | exact .map _ (by assumption)
        | exact .nilmap
        | exact .func _ _ _ _ _ (by assumption) (by assumption) (by assumption) (by assumption)
        | exact .nilfunc
        | exact .iface _ _ _ (by assumption)
        | exact .nilif
    · simp at hv
/-- A value of the shape of a type's zero. -/
def Ex1 (z : Value) (f : AVal → Prop) : Prop := match z with
  | .int k _ => ∃ n, f (.int k n)
  | .bool _ => ∃ b, f (.bool b)
  | .string _ => ∃ s, f (.str s)
  | _ => ∃ v, f v
def ExL (ex : Value → (AVal → Prop) → Prop) : List Value → (List AVal → Prop) → Prop
  | [], f => f []
  | z :: r, f => ex z fun v => ExL ex r fun l => f (v :: l)
def Ex2 (z : Value) (f : AVal → Prop) : Prop := match z with
  | .agg cs => ExL Ex1 cs.toList fun l => f (.agg l)
  | z => Ex1 z f
def Ex3 (z : Value) (f : AVal → Prop) : Prop := match z with
  | .tuple vs => ExL Ex2 vs.toList fun l => f (.tup l)
  | z => Ex2 z f
theorem Ex1.some_ {z : Value} {f : AVal → Prop} (h : Ex1 z f) : ∃ v, f v := by
  unfold Ex1 at h
  split at h <;> obtain ⟨x, hx⟩ := h <;> exact ⟨_, hx⟩
theorem ExL.some_ {ex : Value → (AVal → Prop) → Prop} (hex : ∀ z f, ex z f → ∃ v, f v) : ∀ (l : List Value) {f : List AVal → Prop}, ExL ex l f → ∃ l, f l
  | [], _, h => ⟨[], h⟩
  | z :: r, f, h => by
    obtain ⟨v, hv⟩ := hex _ _ h
    obtain ⟨l, hl⟩ := ExL.some_ hex r hv
    exact ⟨v :: l, hl⟩
theorem Ex2.some_ {z : Value} {f : AVal → Prop} (h : Ex2 z f) : ∃ v, f v := by
  unfold Ex2 at h
  split at h
  · obtain ⟨l, hl⟩ := ExL.some_ (fun z f => Ex1.some_) _ h; exact ⟨_, hl⟩
  · exact h.some_
theorem Ex3.some_ {z : Value} {f : AVal → Prop} (h : Ex3 z f) : ∃ v, f v := by
  unfold Ex3 at h
  split at h
  · obtain ⟨l, hl⟩ := ExL.some_ (fun z f => Ex2.some_) _ h; exact ⟨_, hl⟩
  · exact h.some_
section
variable {P : Program} {G : Nat → Option (List AVal)} {st : St}
theorem run_info {t : TypeId} {i : TypeInfo} (h : P.info? t = some i) (w : World) : (typeInfo t).run P w = .ok i w := by
  simp [typeInfo, program, Sem.run, h]
theorem run_size {t : TypeId} {i : TypeInfo} (h : P.info? t = some i) (w : World) : (sizeOf t).run P w = .ok i.size w := by
  simp [sizeOf, run_info h]
theorem run_zero {t : TypeId} {i : TypeInfo} {z : Value} (h : P.info? t = some i) (hz : i.zero = some z) (w : World) : (zeroValue t).run P w = .ok z w := by
  simp [zeroValue, run_info h, hz]
def isAggD : TypeDesc → Bool
  | .struct _ => true
  | .array _ _ => true
  | _ => false
theorem run_isAgg {t : TypeId} {d : TypeDesc} (h : P.underlying t = some d) (w : World) : (isAgg t).run P w = .ok (isAggD d) w := by
  simp only [isAgg, Sem.run_bind, run_underlying h, Result.andThen_ok]
  cases d <;> rfl
/-- `move`, `assign`. -/
theorem AVK.move {o : Oper} {x : Operand} {K : TVal → St → Prop} (ho : o.op = .move x ∨ o.op = .assign x) (h : K (st.ev x) st) : AVK P G o K st :=
  AVK.value h fun σ lam w a hr => by
    refine ⟨a.eval x, ?_, ev_rel hr x, fun k o' he => ?_⟩
    · rcases ho with ho | ho <;> simp [execOp, ho]
    · cases x with
      | tmp t =>
        simp only [St.ev] at he
        rcases Nat.lt_or_ge t st.env.length with ht | ht
        · simp [ht] at he
          exact hr.env.2.2 t k o' (by simp [ht, he])
        · simp [List.getElem?_eq_none ht] at he
      | const v =>
        simp only [St.ev, ofConst] at he
        split at he <;> cases he
      | global g => cases he
      | func f => cases he
theorem ev_lp {σ : Nat → Pl} {lam : Nat → Nat} {w : World} {a : Act} (hr : Rel G σ lam st w a) {x : Operand} {k o : Nat} (he : st.ev x = .lp k o) : k < st.loc.length := by
  cases x with
  | tmp t =>
    simp only [St.ev] at he
    rcases Nat.lt_or_ge t st.env.length with ht | ht
    · simp [ht] at he
      exact hr.env.2.2 t k o (by simp [ht, he])
    · simp [List.getElem?_eq_none ht] at he
  | const v =>
    simp only [St.ev, ofConst] at he
    split at he <;> cases he
  | global g => cases he
  | func f => cases he
/-- `pick`. -/
def apick (c x y : TVal) (K : TVal → Prop) : Prop := match c with
  | .v (.bool b) => BCase b (K x) (K y)
  | _ => False
theorem eval_bool {σ : Nat → Pl} {lam : Nat → Nat} {w : World} {a : Act} (hr : Rel G σ lam st w a) {c : Operand} {b : Bool} (h : st.ev c = .v (.bool b)) : a.eval c = .bool b := by
  have := ev_rel hr c
  rw [h] at this
  generalize a.eval c = V at this
  cases this; rfl
theorem AVK.pick {o : Oper} {c x y : Operand} {K : TVal → St → Prop} (ho : o.op = .pick c x y) (h : apick (st.ev c) (st.ev x) (st.ev y) (fun t => K t st)) : AVK P G o K st := by
  unfold apick at h
  split at h
  · rename_i b hc
    cases b with
    | true =>
      refine AVK.value h fun σ lam w a hr => ⟨a.eval x, ?_, ev_rel hr x, fun k o' he => ev_lp hr he⟩
      simp [execOp, ho, eval_bool hr hc, asBool]
    | false =>
      refine AVK.value h fun σ lam w a hr => ⟨a.eval y, ?_, ev_rel hr y, fun k o' he => ev_lp hr he⟩
      simp [execOp, ho, eval_bool hr hc, asBool]
  · exact h.elim
/-- A new variable. -/
def abox (v : TVal) (K : TVal → St → Prop) (st : St) : Prop := match v with
  | .v x => match acells x with
    | some l => K (.lp st.loc.length 0) { st with loc := st.loc ++ [.cells l] }
    | none => False
  | _ => False
theorem run_newVar (t : TypeId) (v : Value) (w : World) : (newVar t v).run P w = .ok ⟨w.heap.size, 0, none⟩ (w.alloc (.cells v.cells t)) := by
  simp only [newVar, newRow, Sem.run_bind]
  rfl
theorem LBlkR.new {σ : Nat → Pl} {N : Nat} {w : World} {l : List AVal} {V : Value} {t : TypeId} (h : VRs σ N l V.cells) : LBlkR σ N w.heap.size (w.alloc (.cells V.cells t)) (.cells l) :=
  ⟨_, t, heap_alloc_at w _, h⟩
theorem AO.box {o : Oper} {t : TypeId} {x : Operand} {K : TVal → St → Prop} {Kx : AVal → St → Prop} (ho : o.op = .box t x) (h : abox (st.ev x) K st) : AO P G o K Kx st := by
  unfold abox at h
  split at h
  · rename_i v hv
    split at h
    · rename_i l hl
      refine AO.valueW h fun σ lam w a hr => ⟨_, _, _, _, ?_, OR.newLoc hr (.cells l) (.cells (a.eval x).cells t) ?_ rfl⟩
      · simp [execOp, ho, Instr.box, run_newVar]
      · have := ev_rel hr x
        rw [hv] at this
        exact LBlkR.new (acells_rel this hl)
    · exact h.elim
  · exact h.elim
/-- A type's zero. -/
def ofZero1 : Value → AVal
  | .bool b => .bool b
  | .int k n => .int k n
  | .string s => .str s.data.toList
  | .pointer none => .nilptr
  | .slice none 0 0 => .nilsl
  | .map none => .nilmap
  | .nilFunc => .nilfunc
  | .nilIface => .nilif
  | _ => .undef
def ofZero (z : Value) : AVal := match z with
  | .agg cs => .agg (cs.toList.map ofZero1)
  | z => ofZero1 z
theorem ofZero1_rel (σ : Nat → Pl) (N : Nat) (z : Value) : VR σ N (ofZero1 z) z := by
  unfold ofZero1
  split <;> constructor
theorem ofZero_rel (σ : Nat → Pl) (N : Nat) (z : Value) : VR σ N (ofZero z) z := by
  unfold ofZero
  split
  · rename_i cs
    refine .agg _ _ (by simp) fun i v V hv hV => ?_
    simp only [List.getElem?_map, Array.getElem?_toList, hV, Option.map_some, Option.some.injEq] at hv
    subst hv
    exact ofZero1_rel _ _ _
  · exact ofZero1_rel _ _ _
def aalloc (P : Program) (t : TypeId) (K : TVal → St → Prop) (st : St) : Prop := match (P.info? t).bind (·.zero) with
  | some z => abox (.v (ofZero z)) K st
  | none => False
theorem AO.alloc {o : Oper} {t : TypeId} {K : TVal → St → Prop} {Kx : AVal → St → Prop} (ho : o.op = .alloc t) (h : aalloc P t K st) : AO P G o K Kx st := by
  unfold aalloc at h
  split at h
  · rename_i z hz
    obtain ⟨i, hi, hz⟩ := Option.bind_eq_some_iff.1 hz
    unfold abox at h
    simp only at h
    split at h
    · rename_i l hl
      refine AO.valueW h fun σ lam w a hr => ⟨_, _, _, _, ?_, OR.newLoc hr (.cells l) (.cells z.cells t) ?_ rfl⟩
      · simp [execOp, ho, Instr.alloc, run_zero hi hz, run_newVar]
      · exact LBlkR.new (acells_rel (ofZero_rel _ _ z) hl)
    · exact h.elim
  · exact h.elim
/-- `load`. -/
def St.rd (st : St) (G : Nat → Option (List AVal)) (x : TVal) : Option AVal := (st.at G x).bind fun p => p.1[p.2]?
def St.rds (st : St) (G : Nat → Option (List AVal)) (x : TVal) (n : Nat) : Option (List AVal) := (st.at G x).bind fun p => if p.2 + n ≤ p.1.length then some ((p.1.drop p.2).take n) else none
def aload (P : Program) (G : Nat → Option (List AVal)) (t : TypeId) (x : TVal) (K : TVal → Prop) (st : St) : Prop :=
  match P.underlying t, P.info? t with
  | some d, some i =>
    match x with
    | .lp _ _ =>
      if isAggD d then (match st.rds G x i.size with
        | some l => K (.v (.agg l))
        | none => False)
      else (match st.rd G x with
        | some v => K (.v v)
        | none => False)
    | _ =>
      match i.zero with
      | some z =>
        if isAggD d then ExL Ex1 z.cells.toList (fun l => st.rds G x i.size = some l ∧ K (.v (.agg l)))
        else Ex1 z (fun v => st.rd G x = some v ∧ K (.v v))
      | none => False
  | _, _ => False
theorem run_loadVar_agg {t : TypeId} {d : TypeDesc} {i : TypeInfo} (hd : P.underlying t = some d) (hi : P.info? t = some i) (ha : isAggD d = true) {w : World} {g off : Nat} (h : ∀ j, j < i.size → ∃ V, w.cell? ⟨g, off + j, none⟩ = some V) :
    ∃ r : Array Value, (loadVar t ⟨g, off, none⟩).run P w = .ok (.agg r) w ∧ r.size = i.size ∧ ∀ j, j < i.size → r[j]? = w.cell? ⟨g, off + j, none⟩ := by
  obtain ⟨r, h1, h2, h3⟩ := run_loadCells (P := P) h
  exact ⟨r, by simp [loadVar, run_isAgg hd, ha, run_size hi, h1], h2, h3⟩
theorem run_loadVar_one {t : TypeId} {d : TypeDesc} (hd : P.underlying t = some d) (ha : isAggD d = false) {w : World} {g off : Nat} {V : Value} (h : w.cell? ⟨g, off, none⟩ = some V) : (loadVar t ⟨g, off, none⟩).run P w = .ok V w := by
  simp [loadVar, run_isAgg hd, ha, load, Sem.run, h]
theorem load_one {σ : Nat → Pl} {lam : Nat → Nat} {w : World} {a : Act} (hr : Rel G σ lam st w a) {t : TypeId} {d : TypeDesc} (hd : P.underlying t = some d) (ha : isAggD d = false) {x : Operand} {v : AVal} (h : st.rd G (st.ev x) = some v) :
    ∃ V, (Instr.loadAt t (a.eval x)).run P w = .ok V w ∧ VR σ st.heap.next v V := by
  obtain ⟨⟨l, o⟩, h1, h2⟩ := Option.bind_eq_some_iff.1 h
  obtain ⟨g, off, h3, h4⟩ := at_rel hr (ev_rel hr x) h1
  obtain ⟨U, h5, h6⟩ := h4 0 v (by simpa using h2)
  exact ⟨U, by simp [Instr.loadAt, Instr.sureAddr, h3, run_loadVar_one hd ha (show w.cell? ⟨g, off, none⟩ = some U by simpa using h5)], h6⟩
theorem load_agg {σ : Nat → Pl} {lam : Nat → Nat} {w : World} {a : Act} (hr : Rel G σ lam st w a) {t : TypeId} {d : TypeDesc} {i : TypeInfo} (hd : P.underlying t = some d) (hi : P.info? t = some i) (ha : isAggD d = true) {x : Operand} {l : List AVal} (h : st.rds G (st.ev x) i.size = some l) :
    ∃ V, (Instr.loadAt t (a.eval x)).run P w = .ok V w ∧ VR σ st.heap.next (.agg l) V := by
  obtain ⟨⟨l', o⟩, h1, h2⟩ := Option.bind_eq_some_iff.1 h
  simp only at h2
  split at h2
  · rename_i hlen
    cases h2
    obtain ⟨g, off, h3, h4⟩ := at_rel hr (ev_rel hr x) h1
    have hget : ∀ j, j < i.size → ∃ v, l'[o + j]? = some v := fun j hj => ⟨l'[o + j]'(by omega), List.getElem?_eq_getElem (by omega)⟩
    obtain ⟨r, h5, h6, h7⟩ := run_loadVar_agg (P := P) (w := w) (g := g) (off := off) hd hi ha (fun j hj => by
      obtain ⟨v, hv⟩ := hget j hj
      obtain ⟨U, hU, _⟩ := h4 j v hv
      exact ⟨U, hU⟩)
    refine ⟨.agg r, by simp [Instr.loadAt, Instr.sureAddr, h3, h5], VR.agg _ _ (by simp [h6]; try omega) fun j v V hv hV => ?_⟩
    have hj : j < i.size := by rw [← h6]; exact (Array.getElem?_eq_some_iff.1 hV).1
    rw [List.getElem?_take, if_pos hj, List.getElem?_drop] at hv
    obtain ⟨U, hU, hr'⟩ := h4 j v hv
    rw [h7 j hj, hU] at hV
    cases hV
    exact hr'
  · cases h2
theorem AVK.load {o : Oper} {t : TypeId} {x : Operand} {K : TVal → St → Prop} (ho : o.op = .load t x) (h : aload P G t (st.ev x) (fun t => K t st) st) : AVK P G o K st := by
  unfold aload at h
  split at h
  · rename_i d i hd hi
    have one' : ∀ v, isAggD d = false → st.rd G (st.ev x) = some v → K (.v v) st → AVK P G o K st := fun v ha hv hK =>
      AVK.value hK fun σ lam w a hr => by
        obtain ⟨V, h1, h2⟩ := load_one (P := P) hr hd ha hv
        exact ⟨V, by simp [execOp, ho, h1], h2, fun k o' he => by cases he⟩
    have agg' : ∀ l, isAggD d = true → st.rds G (st.ev x) i.size = some l → K (.v (.agg l)) st → AVK P G o K st := fun l ha hv hK =>
      AVK.value hK fun σ lam w a hr => by
        obtain ⟨V, h1, h2⟩ := load_agg (P := P) hr hd hi ha hv
        exact ⟨V, by simp [execOp, ho, h1], h2, fun k o' he => by cases he⟩
    split at h
    · rename_i k o' he
      split at h
      · rename_i ha
        split at h
        · rename_i l hl; exact agg' l ha hl h
        · exact h.elim
      · rename_i ha
        split at h
        · rename_i v hl; exact one' v (by simpa using ha) hl h
        · exact h.elim
    · split at h
      · split at h
        · rename_i ha
          obtain ⟨l, h1, h2⟩ := ExL.some_ (fun z f => Ex1.some_) _ h
          exact agg' l ha h1 h2
        · rename_i ha
          obtain ⟨v, h1, h2⟩ := h.some_
          exact one' v (by simpa using ha) h1 h2
      · exact h.elim
  · exact h.elim
end
end Go.Abs
namespace Go.Abs
section
variable {P : Program} {G : Nat → Option (List AVal)} {st : St}
/-- A block of the activation's own is written. -/
theorem AQ1.setLoc {σ : Nat → Pl} {lam : Nat → Nat} {w : World} {a : Act} (hr : Rel G σ lam st w a) {i : Nat} {b nb : LBlk} (hb : st.loc[i]? = some b) (hl : b.live = true) (o : Obj)
    (hn : LBlkR σ st.heap.next (lam i) (setBlk w (lam i) o) nb) (hnl : nb.live = true) :
    AQ1 G σ lam st w .normal { st with loc := st.loc.set i nb } .normal a (setBlk w (lam i) o) σ lam := by
  have hi : i < st.loc.length := (List.getElem?_eq_some_iff.1 hb).1
  have hget : ∀ (j : Nat) (c : LBlk), (st.loc.set i nb)[j]? = some c → (j = i ∧ c = nb) ∨ (j ≠ i ∧ st.loc[j]? = some c) := fun j c h => by
    rw [List.getElem?_set] at h
    by_cases hij : i = j
    · subst hij
      rw [if_pos rfl, if_pos hi] at h
      exact .inl ⟨rfl, (Option.some.inj h).symm⟩
    · rw [if_neg hij] at h
      exact .inr ⟨fun e => hij e.symm, h⟩
  have hold : ∀ (j : Nat) (c : LBlk), (st.loc.set i nb)[j]? = some c → c.live = true → ∃ c', st.loc[j]? = some c' ∧ c'.live = true := fun j c h hc => by
    rcases hget j c h with ⟨rfl, rfl⟩ | ⟨_, h⟩
    · exact ⟨b, hb, hl⟩
    · exact ⟨c, h, hc⟩
  refine ⟨.normal, ⟨hr.heap.world (by simp [setBlk_size]) (fun g hg => setBlk_ne _ _ _ _ fun e => ?_) (fun g l hg => setBlk_ne _ _ _ _ fun e => ?_), ⟨fun j c h => ?_, fun j c h hc => ?_, fun j k c c' h h' hc hc' hjk => ?_, fun j c g l h hc hg => ?_, fun j c h hc => ?_⟩, ?_, hr.defers⟩, fun _ _ => rfl, Nat.le_refl _, by simp, fun _ _ => rfl, ⟨rfl, rfl, rfl, by simp [setBlk_size], fun g hg ho => ?_, ?_, ?_⟩⟩
  · subst e; exact hr.loc.far i b hb hl hg
  · subst e; exact hr.loc.glob i b _ l hb hl hg rfl
  · rcases hget j c h with ⟨rfl, rfl⟩ | ⟨hji, h⟩
    · exact hn
    · cases hcl : c.live with
      | false =>
        refine (hr.loc.blk j c h).mono (Nat.le_refl _) (fun _ _ => rfl) (fun hc => by rw [hcl] at hc; cases hc)
      | true => exact (hr.loc.blk j c h).mono (Nat.le_refl _) (fun _ _ => rfl) (fun _ => setBlk_ne _ _ _ _ (hr.loc.inj j i c b h hb hcl hl hji))
  · obtain ⟨c', h', hc'⟩ := hold j c h hc
    exact hr.loc.far j c' h' hc'
  · obtain ⟨d, hd, hd'⟩ := hold j c h hc
    obtain ⟨e, he, he'⟩ := hold k c' h' hc'
    exact hr.loc.inj j k d e hd he hd' he' hjk
  · obtain ⟨c', h', hc'⟩ := hold j c h hc
    exact hr.loc.glob j c' g l h' hc' hg
  · obtain ⟨c', h', hc'⟩ := hold j c h hc
    rw [setBlk_size]
    exact hr.loc.lt j c' h' hc'
  · simpa using hr.env
  · exact setBlk_ne _ _ _ _ fun e => ho (.inr ⟨i, b, hb, hl, e.symm⟩)
  · rintro g (hg | ⟨j, c, h, hc, rfl⟩)
    · exact .inl (.inl hg)
    · obtain ⟨c', h', hc'⟩ := hold j c h hc
      exact .inl (.inr ⟨j, c', h', hc', rfl⟩)
  · rintro g (hg | ⟨j, c, h, hc, rfl⟩)
    · exact .inl (.inl hg)
    · obtain ⟨c', h', hc'⟩ := hold j c h hc
      exact .inl (.inr ⟨j, c', h', hc', rfl⟩)
theorem AHeap.get_set (H : AHeap) (n : Nat) (b : ABlk) (i : Nat) : (H.set n b).get i = if i = n then some b else H.get i := rfl
theorem AHeap.get_alloc (H : AHeap) (b : ABlk) (i : Nat) : (H.alloc b).get i = if i = H.next then some b else H.get i := rfl
theorem AHeap.get_kill (H : AHeap) (n : Nat) (i : Nat) : (H.kill n).get i = if i = n then none else H.get i := rfl
/-- A block of the heap is written. -/
theorem AQ1.setHeap {σ : Nat → Pl} {lam : Nat → Nat} {w : World} {a : Act} (hr : Rel G σ lam st w a) {b : Nat} {blk nb : ABlk} (hb : st.heap.get b = some blk) (hl : blk.rw = true) (o : Obj)
    (hn : BlkR σ st.heap.next (σ b) (setBlk w (σ b).g o) nb) (hnl : nb.rw = true) :
    AQ1 G σ lam st w .normal { st with heap := st.heap.set b nb } .normal a (setBlk w (σ b).g o) σ lam := by
  have hget : ∀ (j : Nat) (c : ABlk), (st.heap.set b nb).get j = some c → (j = b ∧ c = nb) ∨ (j ≠ b ∧ st.heap.get j = some c) := fun j c h => by
    rw [AHeap.get_set] at h
    by_cases hij : j = b
    · rw [if_pos hij] at h
      exact .inl ⟨hij, (Option.some.inj h).symm⟩
    · rw [if_neg hij] at h
      exact .inr ⟨hij, h⟩
  have hold : ∀ (j : Nat) (c : ABlk), (st.heap.set b nb).get j = some c → ∃ c', st.heap.get j = some c' ∧ (c.rw = true → c'.rw = true) := fun j c h => by
    rcases hget j c h with ⟨rfl, rfl⟩ | ⟨_, h⟩
    · exact ⟨blk, hb, fun _ => hl⟩
    · exact ⟨c, h, id⟩
  have hfoot : ∀ g, Foot σ (st.heap.set b nb) g → Foot σ st.heap g := fun g ⟨j, c, h, e⟩ => by
    obtain ⟨c', h', _⟩ := hold j c h
    exact ⟨j, c', h', e⟩
  have hown : ∀ g, Own σ (st.heap.set b nb) g → Own σ st.heap g := fun g ⟨j, c, h, hc, e⟩ => by
    obtain ⟨c', h', hc'⟩ := hold j c h
    exact ⟨j, c', h', hc' hc, e⟩
  refine ⟨.normal, ⟨⟨fun j c h => ?_, fun j c h => ?_, fun j k c c' h h' hjk hc => ?_, ?_, fun j c g l h hc hg => ?_⟩, ⟨fun j c h => ?_, fun j c h hc hf => ?_, hr.loc.inj, hr.loc.glob, fun j c h hc => by rw [setBlk_size]; exact hr.loc.lt j c h hc⟩, hr.env, hr.defers⟩, fun _ _ => rfl, Nat.le_refl _, Nat.le_refl _, fun _ _ => rfl, ⟨rfl, rfl, rfl, by simp [setBlk_size], fun g hg ho => ?_, ?_, ?_⟩⟩
  · obtain ⟨c', h', _⟩ := hold j c h
    exact hr.heap.lt j c' h'
  · rcases hget j c h with ⟨rfl, rfl⟩ | ⟨hji, h⟩
    · exact hn
    · exact (hr.heap.blk j c h).mono (Nat.le_refl _) (fun _ _ => rfl) (by simp [setBlk_size]) (setBlk_ne _ _ _ _ fun e => hr.heap.sep b j blk c hb h (fun e => hji e.symm) hl e.symm)
  · obtain ⟨d, hd, hd'⟩ := hold j c h
    obtain ⟨e, he, _⟩ := hold k c' h'
    exact hr.heap.sep j k d e hd he hjk (hd' hc)
  · exact hr.heap.glob.mono (by simp [setBlk_size]) fun g l hg => setBlk_ne _ _ _ _ fun e => hr.heap.globFar b blk g l hb hl hg e.symm
  · obtain ⟨c', h', hc'⟩ := hold j c h
    exact hr.heap.globFar j c' g l h' (hc' hc) hg
  · refine (hr.loc.blk j c h).mono (Nat.le_refl _) (fun _ _ => rfl) fun hc => setBlk_ne _ _ _ _ fun e => hr.loc.far j c h hc ⟨b, blk, hb, e.symm⟩
  · exact hr.loc.far j c h hc (hfoot _ hf)
  · exact setBlk_ne _ _ _ _ fun e => ho (.inl ⟨b, blk, hb, hl, e.symm⟩)
  · rintro g (hg | hg)
    · exact .inl (.inl (hown g hg))
    · exact .inl (.inr hg)
  · rintro g (hg | hg)
    · exact .inl (.inl (hfoot g hg))
    · exact .inl (.inr hg)
/-- A new block of the heap. -/
def upd (σ : Nat → Pl) (n : Nat) (p : Pl) : Nat → Pl := fun i => if i = n then p else σ i
theorem upd_at (σ : Nat → Pl) (n : Nat) (p : Pl) : upd σ n p n = p := by simp [upd]
theorem upd_lt (σ : Nat → Pl) (n : Nat) (p : Pl) {b : Nat} (h : b < n) : upd σ n p b = σ b := by simp [upd]; omega
theorem AQ1.newHeap {σ : Nat → Pl} {lam : Nat → Nat} {w : World} {a : Act} (hr : Rel G σ lam st w a) (nb : ABlk) (o : Obj) (cap : Nat)
    (hn : BlkR (upd σ st.heap.next ⟨w.heap.size, 0, cap⟩) (st.heap.next + 1) ⟨w.heap.size, 0, cap⟩ (w.alloc o) nb) :
    AQ1 G σ lam st w .normal { st with heap := st.heap.alloc nb } .normal a (w.alloc o) (upd σ st.heap.next ⟨w.heap.size, 0, cap⟩) lam := by
  have hσ : ∀ b, b < st.heap.next → upd σ st.heap.next ⟨w.heap.size, 0, cap⟩ b = σ b := fun b hb => upd_lt _ _ _ hb
  have hget : ∀ (j : Nat) (c : ABlk), (st.heap.alloc nb).get j = some c → (j = st.heap.next ∧ c = nb) ∨ (j < st.heap.next ∧ st.heap.get j = some c) := fun j c h => by
    rw [AHeap.get_alloc] at h
    by_cases hij : j = st.heap.next
    · rw [if_pos hij] at h
      exact .inl ⟨hij, (Option.some.inj h).symm⟩
    · rw [if_neg hij] at h
      exact .inr ⟨hr.heap.lt j c h, h⟩
  have hsz : ∀ (j : Nat) (c : ABlk), st.heap.get j = some c → (σ j).g < w.heap.size := fun j c h => (hr.heap.blk j c h).size
  have hfoot : ∀ g, Foot (upd σ st.heap.next ⟨w.heap.size, 0, cap⟩) (st.heap.alloc nb) g → Foot σ st.heap g ∨ g = w.heap.size := fun g ⟨j, c, h, e⟩ => by
    rcases hget j c h with ⟨rfl, rfl⟩ | ⟨hj, h⟩
    · rw [upd_at] at e; exact .inr e.symm
    · rw [hσ j hj] at e; exact .inl ⟨j, c, h, e⟩
  refine ⟨.normal, ⟨⟨fun j c h => ?_, fun j c h => ?_, fun j k c c' h h' hjk hc => ?_, ?_, fun j c g l h hc hg => ?_⟩, ⟨fun j c h => ?_, fun j c h hc hf => ?_, hr.loc.inj, hr.loc.glob, fun j c h hc => ?_⟩, ?_, hr.defers⟩, hσ, Nat.le_succ _, Nat.le_refl _, fun _ _ => rfl, ⟨rfl, rfl, rfl, by simp, fun g hg ho => heap_alloc_old w o hg, ?_, ?_⟩⟩
  · rcases hget j c h with ⟨rfl, rfl⟩ | ⟨hj, h⟩
    · exact Nat.lt_succ_self _
    · exact Nat.lt_succ_of_lt hj
  · rcases hget j c h with ⟨rfl, rfl⟩ | ⟨hj, h⟩
    · rw [upd_at]; exact hn
    · rw [hσ j hj]
      exact (hr.heap.blk j c h).mono (Nat.le_succ _) hσ (by simp) (heap_alloc_old w o (hsz j c h))
  · rcases hget j c h with ⟨hj, h1⟩ | ⟨hj, h1⟩ <;> rcases hget k c' h' with ⟨hk, h2⟩ | ⟨hk, h2⟩
    · exact absurd (hj.trans hk.symm) hjk
    · rw [hj, upd_at, hσ k hk]
      exact (Nat.ne_of_lt (hsz k c' h2)).symm
    · rw [hk, upd_at, hσ j hj]
      exact Nat.ne_of_lt (hsz j c h1)
    · rw [hσ j hj, hσ k hk]
      exact hr.heap.sep j k c c' h1 h2 hjk hc
  · exact hr.heap.glob.mono (by simp) fun g l hg => heap_alloc_old w o (hr.heap.glob g l hg).1
  · rcases hget j c h with ⟨rfl, rfl⟩ | ⟨hj, h⟩
    · rw [upd_at]
      exact (Nat.ne_of_lt (hr.heap.glob g l hg).1).symm
    · rw [hσ j hj]
      exact hr.heap.globFar j c g l h hc hg
  · exact (hr.loc.blk j c h).mono (Nat.le_succ _) hσ fun hc => heap_alloc_old w o (hr.loc.lt j c h hc)
  · rcases hfoot _ hf with hf | hf
    · exact hr.loc.far j c h hc hf
    · have := hr.loc.lt j c h hc; omega
  · have := hr.loc.lt j c h hc
    simp; omega
  · exact hr.env.mono (Nat.le_succ _) hσ (Nat.le_refl _) (fun _ _ => rfl)
  · rintro g (⟨j, c, h, hc, e⟩ | hg)
    · rcases hget j c h with ⟨rfl, rfl⟩ | ⟨hj, h⟩
      · rw [upd_at] at e; subst e; exact .inr (Nat.le_refl _)
      · rw [hσ j hj] at e; exact .inl (.inl ⟨j, c, h, hc, e⟩)
    · exact .inl (.inr hg)
  · rintro g (hg | hg)
    · rcases hfoot g hg with hg | hg
      · exact .inl (.inl hg)
      · subst hg; exact .inr (Nat.le_refl _)
    · exact .inl (.inr hg)
/-- `store`. -/
def lset (l : List AVal) (o : Nat) : List AVal → List AVal
  | [] => l
  | v :: r => lset (l.set o v) (o + 1) r
theorem lset_length : ∀ (vs : List AVal) (l : List AVal) (o : Nat), (lset l o vs).length = l.length
  | [], _, _ => rfl
  | v :: r, l, o => by simp [lset, lset_length r]
theorem lset_get : ∀ (vs : List AVal) (l : List AVal) (o : Nat) (h : o + vs.length ≤ l.length) (i : Nat), (lset l o vs)[i]? = if o ≤ i ∧ i < o + vs.length then vs[i - o]? else l[i]?
  | [], cs, o, h, i => by simp [lset]; omega
  | v :: r, cs, o, h, i => by
    simp only [List.length_cons] at h
    simp only [lset, List.length_cons]
    rw [lset_get r _ _ (by simp; omega) i]
    by_cases h1 : o + 1 ≤ i ∧ i < o + 1 + r.length
    · rw [if_pos h1, if_pos (by omega)]
      have : i - o = (i - (o + 1)) + 1 := by omega
      rw [this]; simp
    · rw [if_neg h1, List.getElem?_set]
      by_cases h2 : o = i
      · subst h2
        rw [if_pos rfl, if_pos (by omega), if_pos (by omega)]
        simp
      · rw [if_neg h2, if_neg (by omega)]
def storeVals (x : TVal) : Option (List AVal) := match x with
  | .v v => (acells v).bind fun l => if l.all okCell then some l else none
  | _ => none
def astore (P : Program) (t : TypeId) (x y : TVal) (K : St → Prop) (st : St) : Prop :=
  match P.info? t, storeVals y with
  | some i, some vs =>
    if vs.length = i.size then
      match x with
      | .lp k o => (match st.loc[k]? with
        | some (.cells l) => if o + vs.length ≤ l.length then K { st with loc := st.loc.set k (.cells (lset l o vs)) } else False
        | _ => False)
      | .v (.ptr b o) => ∃ es l, st.heap.get b = some (.cells es l true) ∧ o + vs.length ≤ l.length ∧ K { st with heap := st.heap.set b (.cells es (lset l o vs) true) }
      | _ => False
    else False
  | _, _ => False
theorem storeVals_rel {σ : Nat → Pl} {lam : Nat → Nat} {N : Nat} {y : TVal} {V : Value} (h : TR σ lam N y V) {vs : List AVal} (hv : storeVals y = some vs) : VRs σ N vs V.cells ∧ ∀ u ∈ V.cells.toList, one u = true := by
  unfold storeVals at hv
  split at hv
  · rename_i v
    obtain ⟨l, h1, h2⟩ := Option.bind_eq_some_iff.1 hv
    split at h2
    · rename_i hall
      cases h2
      have hr := acells_rel h h1
      refine ⟨hr, fun u hu => ?_⟩
      obtain ⟨i, hi, rfl⟩ := List.mem_iff_getElem.1 hu
      have hi' : i < vs.length := by rw [← hr.1]; simpa using hi
      have := hr.2 i vs[i] V.cells.toList[i] (by simp [hi']) (by rw [← Array.getElem?_toList]; simp [hi])
      exact okCell.one this (List.all_eq_true.1 hall _ (List.getElem_mem hi'))
    · cases h2
  · cases hv
theorem run_storeVar {t : TypeId} {i : TypeInfo} (hi : P.info? t = some i) {w : World} {g o : Nat} {cs : Array Value} {ty : TypeId} {fr : Nat × Nat} (h : w.heap[g]? = some (.cells cs ty fr)) {V : Value} (hs : V.cells.size = i.size)
    (h1 : ∀ u ∈ V.cells.toList, one u = true) (h2 : o + V.cells.size ≤ cs.size) (h3 : ∀ i, i < cs.size → ¬ (fr.1 ≤ i ∧ i < fr.2)) :
    (storeVar t ⟨g, o, none⟩ V).run P w = .ok () (setBlk w g (.cells (wr cs o V.cells.toList) ty fr)) := by
  have := run_storeCells (P := P) V.cells.toList w cs o 0 h h1 (by simpa using h2) h3
  simp only [storeVar, Sem.run_bind, run_size hi, Result.andThen_ok]
  rw [if_neg (by simp [hs])]
  simpa using this
theorem wr_rel {σ : Nat → Pl} {N : Nat} {l vs : List AVal} {cs Vs : Array Value} {off o : Nat} (h : ∀ (i : Nat) (v : AVal), l[i]? = some v → ∃ V, cs[off + i]? = some V ∧ VR σ N v V) (hv : VRs σ N vs Vs) (ho : o + vs.length ≤ l.length) (hc : off + l.length ≤ cs.size) :
    ∀ (i : Nat) (v : AVal), (lset l o vs)[i]? = some v → ∃ V, (wr cs (off + o) Vs.toList)[off + i]? = some V ∧ VR σ N v V := fun i v hi => by
  have hlen : Vs.toList.length = vs.length := by simpa using hv.1
  rw [lset_get vs l o ho i] at hi
  rw [wr_get _ _ _ (by omega)]
  split at hi
  · rename_i hio
    rw [if_pos (by omega)]
    have hlt : i - o < vs.length := by omega
    have e : off + i - (off + o) = i - o := by omega
    have hV : Vs.toList[i - o]? = some (Vs.toList[i - o]'(by omega)) := List.getElem?_eq_getElem (by omega)
    refine ⟨_, by rw [e, hV], hv.2 (i - o) v _ hi (by rw [← Array.getElem?_toList]; exact hV)⟩
  · rename_i hio
    rw [if_neg (by omega)]
    exact h i v hi
theorem AO.store {o : Oper} {t : TypeId} {x y : Operand} {K : TVal → St → Prop} {Kx : AVal → St → Prop} (ho : o.op = .store t x y) (h : astore P t (st.ev x) (st.ev y) (K (.v (.tup []))) st) : AO P G o K Kx st := by
  unfold astore at h
  split at h
  · rename_i i vs hi hvs
    split at h
    · rename_i hsz
      split at h
      · rename_i k o' hx
        split at h
        · rename_i l hl
          split at h
          · rename_i hlen
            refine AO.skipW h fun σ lam w a hr => ?_
            have hx' := ev_rel hr x
            rw [hx] at hx'
            obtain ⟨cs, ty, h1, h2⟩ := hr.loc.blk k _ hl
            obtain ⟨hV, hone⟩ := storeVals_rel (ev_rel hr y) hvs
            have hrun := run_storeVar (P := P) (t := t) hi h1 (V := a.eval y) (by rw [hV.1]; exact hsz) hone (o := o') (by rw [hV.1, h2.1]; exact hlen) (by simp)
            refine ⟨_, σ, lam, by simp [execOp, ho, Instr.storeAt, Instr.sureAddr, show a.eval x = _ from hx', hrun], AQ1.setLoc hr hl rfl _ ⟨wr cs o' (a.eval y).cells.toList, ty, setBlk_at _ _ _ (hr.loc.lt k _ hl rfl), by rw [wr_size, lset_length]; exact h2.1, fun j v V hv hV' => ?_⟩ rfl⟩
            have := wr_rel (σ := σ) (N := st.heap.next) (l := l) (cs := cs) (off := 0) (o := o') (fun j v hj => ⟨cs[j]'(by rw [h2.1]; exact (List.getElem?_eq_some_iff.1 hj).1), by simp, h2.2 j v _ hj (by simp)⟩) hV hlen (by rw [h2.1]; omega) j v hv
            simp only [Nat.zero_add] at this
            obtain ⟨V', h5, h6⟩ := this
            rw [hV'] at h5
            cases h5
            exact h6
          · exact h.elim
        · exact h.elim
      · rename_i b o' hx
        obtain ⟨es, l, hb, hlen, hK⟩ := h
        refine AO.skipW hK fun σ lam w a hr => ?_
        have hx' := ev_rel hr x
        rw [hx] at hx'
        have hx2 : a.eval x = .pointer (some ⟨(σ b).g, (σ b).off + o', none⟩) := by
          generalize a.eval x = V at hx'
          cases hx'; rfl
        obtain ⟨cs, ty, fr, h1, h2, h3, h4, h5⟩ := hr.heap.blk b _ hb
        obtain ⟨hV, hone⟩ := storeVals_rel (ev_rel hr y) hvs
        have hrun := run_storeVar (P := P) (t := t) hi h1 (V := a.eval y) (by rw [hV.1]; exact hsz) hone (o := (σ b).off + o') (by rw [hV.1]; omega) h2
        refine ⟨_, σ, lam, by simp [execOp, ho, Instr.storeAt, Instr.sureAddr, hx2, hrun], AQ1.setHeap hr hb rfl _ ⟨wr cs ((σ b).off + o') (a.eval y).cells.toList, ty, fr, setBlk_at _ _ _ (Array.getElem?_eq_some_iff.1 h1).1, by simpa [wr_size] using h2, by rw [lset_length]; exact h3, by rw [wr_size]; exact h4, wr_rel h5 hV hlen (by omega)⟩ rfl⟩
      · exact h.elim
    · exact h.elim
  · exact h.elim
end
end Go.Abs
namespace Go.Abs
section
variable {P : Program} {G : Nat → Option (List AVal)} {st : St}
/-- An operation on values alone: from the values of its operands a value. -/
theorem AVK.pure1 {o : Oper} {x : Operand} {K : TVal → St → Prop} {v r : AVal} (hx : st.ev x = .v v) (hK : K (.v r) st)
    (h : ∀ (σ : Nat → Pl) (N : Nat) (a : Act) (w : World) (V : Value), a.eval x = V → VR σ N v V → ∃ R, (execOp a.eval o).run P w = .ok (.value R) w ∧ VR σ N r R) : AVK P G o K st :=
  AVK.value hK fun σ lam w a hr => by
    have hv := ev_rel hr x
    rw [hx] at hv
    obtain ⟨R, h1, h2⟩ := h σ _ a w _ rfl hv
    exact ⟨R, h1, h2, fun k o' he => by cases he⟩
theorem AVK.pure2 {o : Oper} {x y : Operand} {K : TVal → St → Prop} {v u r : AVal} (hx : st.ev x = .v v) (hy : st.ev y = .v u) (hK : K (.v r) st)
    (h : ∀ (σ : Nat → Pl) (N : Nat) (a : Act) (w : World) (V U : Value), a.eval x = V → a.eval y = U → VR σ N v V → VR σ N u U → ∃ R, (execOp a.eval o).run P w = .ok (.value R) w ∧ VR σ N r R) : AVK P G o K st :=
  AVK.value hK fun σ lam w a hr => by
    have hv := ev_rel hr x
    have hu := ev_rel hr y
    rw [hx] at hv
    rw [hy] at hu
    obtain ⟨R, h1, h2⟩ := h σ _ a w _ _ rfl rfl hv hu
    exact ⟨R, h1, h2, fun k o' he => by cases he⟩
def strMax : Nat := 9223372036854775807
/-- Two whole numbers. -/
def abinInt (op : BinOp) (k k' : IntKind) (a b : Int) (K : AVal → Prop) : Prop :=
  match op with
  | .shl => 0 ≤ b ∧ K (.int k (k.wrap (a * 2 ^ (min b.toNat k.bits))))
  | .shr => 0 ≤ b ∧ K (.int k (a.fdiv (2 ^ (min b.toNat k.bits))))
  | op => if k = k' then (match op with
    | .add => K (.int k (k.wrap (a + b)))
    | .sub => K (.int k (k.wrap (a - b)))
    | .mul => K (.int k (k.wrap (a * b)))
    | .quo => b ≠ 0 ∧ K (.int k (k.wrap (a.tdiv b)))
    | .rem => b ≠ 0 ∧ K (.int k (a.tmod b))
    | .and => K (.int k (k.wrap (BitVec.ofInt k.bits a &&& BitVec.ofInt k.bits b).toNat))
    | .or => K (.int k (k.wrap (BitVec.ofInt k.bits a ||| BitVec.ofInt k.bits b).toNat))
    | .xor => K (.int k (k.wrap (BitVec.ofInt k.bits a ^^^ BitVec.ofInt k.bits b).toNat))
    | .andNot => K (.int k (k.wrap (BitVec.ofInt k.bits a &&& ~~~ BitVec.ofInt k.bits b).toNat))
    | .eql => K (.bool (a == b))
    | .neq => K (.bool (a != b))
    | .lss => K (.bool (decide (a < b)))
    | .leq => K (.bool (decide (a ≤ b)))
    | .gtr => K (.bool (decide (a > b)))
    | .geq => K (.bool (decide (a ≥ b)))
    | _ => False) else False
theorem abinInt_ok {op : BinOp} {k k' : IntKind} {a b : Int} {K : AVal → Prop} (h : abinInt op k k' a b K) (t : TypeId) : ∃ r, K r ∧ ∀ (w : World), ∃ R, (binOp op t (.int k a) (.int k' b)).run P w = .ok R w ∧ ∀ σ N, VR σ N r R := by
  unfold abinInt at h
  split at h
  · obtain ⟨h0, h⟩ := h
    exact ⟨_, h, fun w => ⟨_, by rw [binOp_shl]; simp only [Op.shift]; rw [if_neg (by omega)]; rfl, fun _ _ => .int _ _⟩⟩
  · obtain ⟨h0, h⟩ := h
    exact ⟨_, h, fun w => ⟨_, by rw [binOp_shr]; simp only [Op.shift]; rw [if_neg (by omega)]; rfl, fun _ _ => .int _ _⟩⟩
  · split at h
    · rename_i hk
      subst hk
      split at h
      · exact ⟨_, h, fun w => ⟨_, by rw [binOp_add]; rfl, fun _ _ => .int _ _⟩⟩
      · exact ⟨_, h, fun w => ⟨_, by rw [binOp_sub]; rfl, fun _ _ => .int _ _⟩⟩
      · exact ⟨_, h, fun w => ⟨_, by rw [binOp_mul]; rfl, fun _ _ => .int _ _⟩⟩
      · obtain ⟨h0, h⟩ := h
        exact ⟨_, h, fun w => ⟨_, by rw [binOp_quo]; simp only [Op.intDiv, if_neg h0]; rfl, fun _ _ => .int _ _⟩⟩
      · obtain ⟨h0, h⟩ := h
        exact ⟨_, h, fun w => ⟨_, by rw [binOp_rem]; simp only [Op.intDiv, if_neg h0]; rfl, fun _ _ => .int _ _⟩⟩
      · exact ⟨_, h, fun w => ⟨_, by rw [binOp_and]; rfl, fun _ _ => .int _ _⟩⟩
      · exact ⟨_, h, fun w => ⟨_, by rw [binOp_or]; rfl, fun _ _ => .int _ _⟩⟩
      · exact ⟨_, h, fun w => ⟨_, by rw [binOp_xor]; rfl, fun _ _ => .int _ _⟩⟩
      · exact ⟨_, h, fun w => ⟨_, by rw [binOp_andNot]; rfl, fun _ _ => .int _ _⟩⟩
      · exact ⟨_, h, fun w => ⟨_, by rw [binOp_eql]; rfl, fun _ _ => .bool _⟩⟩
      · exact ⟨_, h, fun w => ⟨_, by rw [binOp_neq]; rfl, fun _ _ => .bool _⟩⟩
      · exact ⟨_, h, fun w => ⟨_, by rw [binOp_lss]; rfl, fun _ _ => .bool _⟩⟩
      · exact ⟨_, h, fun w => ⟨_, by rw [binOp_leq]; rfl, fun _ _ => .bool _⟩⟩
      · exact ⟨_, h, fun w => ⟨_, by rw [binOp_gtr]; rfl, fun _ _ => .bool _⟩⟩
      · exact ⟨_, h, fun w => ⟨_, by rw [binOp_geq]; rfl, fun _ _ => .bool _⟩⟩
      · exact h.elim
    · exact h.elim
/-- Two texts. -/
def abinStr (op : BinOp) (a b : List UInt8) (K : AVal → Prop) : Prop :=
  match op with
  | .add => a.length + b.length ≤ strMax ∧ K (.str (a ++ b))
  | .eql => K (.bool (a == b))
  | .neq => K (.bool (!(a == b)))
  | .lss => K (.bool (Op.bytesLess a b))
  | .leq => K (.bool (Op.bytesLess a b || a == b))
  | .gtr => K (.bool (!(Op.bytesLess a b || a == b)))
  | .geq => K (.bool (!(Op.bytesLess a b)))
  | _ => False
theorem mk_append (a b : List UInt8) : (⟨a.toArray⟩ : ByteArray) ++ ⟨b.toArray⟩ = ⟨(a ++ b).toArray⟩ := by
  apply ByteArray.ext
  simp [ByteArray.data_append]
theorem abinStr_ok {op : BinOp} {a b : List UInt8} {K : AVal → Prop} (h : abinStr op a b K) (t : TypeId) : ∃ r, K r ∧ ∀ (w : World), ∃ R, (binOp op t (.string ⟨a.toArray⟩) (.string ⟨b.toArray⟩)).run P w = .ok R w ∧ ∀ σ N, VR σ N r R := by
  unfold abinStr at h
  split at h
  · obtain ⟨h0, h⟩ := h
    refine ⟨_, h, fun w => ⟨_, ?_, fun _ _ => .str _⟩⟩
    have hs : ∀ l : List UInt8, (⟨l.toArray⟩ : ByteArray).size = l.length := fun l => by simp [ByteArray.size]
    simp only [binOp, Op.stringOp, hs]
    rw [if_neg (by have : IntKind.i64.max = 9223372036854775807 := by decide
                   rw [this]; unfold strMax at h0; omega)]
    rw [mk_append]
    rfl
  · exact ⟨_, h, fun w => ⟨_, by rw [binOp_string_eql, ByteArray.toList_mk, ByteArray.toList_mk]; rfl, fun _ _ => .bool _⟩⟩
  · exact ⟨_, h, fun w => ⟨_, by rw [binOp_string_neq, ByteArray.toList_mk, ByteArray.toList_mk]; rfl, fun _ _ => .bool _⟩⟩
  · exact ⟨_, h, fun w => ⟨_, by rw [binOp_string_lss, ByteArray.toList_mk, ByteArray.toList_mk]; rfl, fun _ _ => .bool _⟩⟩
  · exact ⟨_, h, fun w => ⟨_, by rw [binOp_string_leq, ByteArray.toList_mk, ByteArray.toList_mk]; rfl, fun _ _ => .bool _⟩⟩
  · refine ⟨_, h, fun w => ⟨.bool (!(Op.bytesLess a b || a == b)), ?_, fun _ _ => .bool _⟩⟩
    rw [binOp_string_gtr, ByteArray.toList_mk, ByteArray.toList_mk]
    simp
  · exact ⟨_, h, fun w => ⟨_, by rw [binOp_string_geq, ByteArray.toList_mk, ByteArray.toList_mk]; rfl, fun _ _ => .bool _⟩⟩
  · exact h.elim
/-- Structs: their fields are numbers, texts, truths, structs. -/
def aeq (P : Program) : Nat → TypeId → AVal → AVal → Option Bool
  | 0, _, _, _ => none
  | d + 1, t, x, y =>
    match P.underlying t, x, y with
    | some .bool, .bool a, .bool b => some (a == b)
    | some (.int _), .int k a, .int k' b => if k = k' then some (a == b) else none
    | some .string, .str a, .str b => some (a == b)
    | _, _, _ => none
/-- `==`, `!=` where it is neither of numbers nor of texts. -/
def abin (op : BinOp) (P : Program) (t : TypeId) (x y : AVal) (K : AVal → Prop) : Prop :=
  match x, y with
  | .int k a, .int k' b => abinInt op k k' a b K
  | .str a, .str b => abinStr op a b K
  | .bool a, .bool b => (match P.underlying t, op with
    | some .bool, .eql => K (.bool (a == b))
    | some .bool, .neq => K (.bool (a != b))
    | _, _ => False)
  | _, _ => False
theorem AVK.binOp {o : Oper} {op : BinOp} {t t' : TypeId} {x y : Operand} {K : TVal → St → Prop} {v u : AVal} (ho : o.op = .binOp op t x y t') (hx : st.ev x = .v v) (hy : st.ev y = .v u)
    (h : abin op P t v u (fun r => K (.v r) st)) : AVK P G o K st := by
  have guard : ∀ (w : World) (X Y : Value), (∀ cs, X ≠ .agg cs) → X ≠ .nilIface → (eqGuard op t x y X Y).run P w = .ok () w := by
    intro w X Y h1 h2
    cases op <;> first
      | rfl
      | (cases X <;> first | rfl | (exact absurd rfl h2) | (exact absurd rfl (h1 _)) | (cases Y <;> rfl))
  unfold abin at h
  split at h
  · rename_i k a k' b
    obtain ⟨r, hK, hrun⟩ := abinInt_ok (P := P) h t
    refine AVK.pure2 hx hy hK fun σ N a' w V U hV hU h1 h2 => ?_
    cases h1; cases h2
    obtain ⟨R, h3, h4⟩ := hrun w
    exact ⟨R, by simp [execOp, ho, hV, hU, guard, h3], h4 _ _⟩
  · rename_i a b
    obtain ⟨r, hK, hrun⟩ := abinStr_ok (P := P) h t
    refine AVK.pure2 hx hy hK fun σ N a' w V U hV hU h1 h2 => ?_
    cases h1; cases h2
    obtain ⟨R, h3, h4⟩ := hrun w
    exact ⟨R, by simp [execOp, ho, hV, hU, guard, h3], h4 _ _⟩
  · rename_i a b
    split at h
    · rename_i hd
      refine AVK.pure2 hx hy h fun σ N a' w V U hV hU h1 h2 => ?_
      cases h1; cases h2
      exact ⟨.bool (a == b), by simp [execOp, ho, hV, hU, guard, run_eql_bool _ _ _ _ hd], .bool _⟩
    · rename_i hd
      refine AVK.pure2 hx hy h fun σ N a' w V U hV hU h1 h2 => ?_
      cases h1; cases h2
      exact ⟨.bool (a != b), by simp [execOp, ho, hV, hU, guard, run_neq_bool _ _ _ _ hd]; cases a <;> cases b <;> rfl, .bool _⟩
    · exact h.elim
  · exact h.elim
end
end Go.Abs
namespace Go.Abs
section
variable {P : Program} {G : Nat → Option (List AVal)} {st : St}
/-- A part of a struct's or an array's cells. -/
def apart (P : Program) (t : TypeId) (xs : List AVal) (off : Nat) : Option AVal :=
  match P.underlying t, P.info? t with
  | some d, some i => if isAggD d then (if off + i.size ≤ xs.length then some (.agg ((xs.drop off).take i.size)) else none) else xs[off]?
  | _, _ => none
theorem apart_rel {σ : Nat → Pl} {N : Nat} {t : TypeId} {xs : List AVal} {Xs : Array Value} {off : Nat} {v : AVal} (hx : VRs σ N xs Xs) (h : apart P t xs off = some v) (w : World) :
    ∃ V, (part t Xs off).run P w = .ok V w ∧ VR σ N v V := by
  unfold apart at h
  split at h
  · rename_i d i hd hi
    split at h
    · rename_i ha
      split at h
      · rename_i hl
        cases h
        refine ⟨.agg (Xs.extract off (off + i.size)), by simp [part, run_isAgg hd, ha, run_size hi], .agg _ _ (by simp [hx.1]; omega) fun j v V hv hV => ?_⟩
        have hj : j < i.size := by
          have := (List.getElem?_eq_some_iff.1 hv).1
          simp at this; omega
        rw [List.getElem?_take, if_pos hj, List.getElem?_drop] at hv
        rw [Array.getElem?_extract] at hV
        split at hV
        · exact hx.2 _ _ _ hv hV
        · cases hV
      · cases h
    · rename_i ha
      have hlt : off < Xs.size := by rw [hx.1]; exact (List.getElem?_eq_some_iff.1 h).1
      refine ⟨Xs[off], ?_, hx.2 _ _ _ h (by simp [hlt])⟩
      simp [part, run_isAgg hd, ha, hlt]
  · cases h
def aeqF (eqv : TypeId → AVal → AVal → Option Bool) (P : Program) (xs ys : List AVal) : List Field → Option Bool
  | [] => some true
  | f :: fs => if f.name = "_" then aeqF eqv P xs ys fs else
    match apart P f.type xs f.offset, apart P f.type ys f.offset with
    | some a, some b => (match eqv f.type a b, aeqF eqv P xs ys fs with
      | some r, some s => some (r && s)
      | _, _ => none)
    | _, _ => none
def aeqS (P : Program) : Nat → TypeId → AVal → AVal → Option Bool
  | 0, _, _, _ => none
  | d + 1, t, x, y =>
    match P.underlying t, x, y with
    | some .bool, .bool a, .bool b => some (a == b)
    | some (.int _), .int k a, .int k' b => if k = k' then some (a == b) else none
    | some .string, .str a, .str b => some (a == b)
    | some (.struct fs), .agg xs, .agg ys => if P.stoodInHeld t then none else aeqF (aeqS P d) P xs ys fs.toList
    | _, _, _ => none
theorem aeqF_ok {eqv : TypeId → AVal → AVal → Option Bool} {d : Nat} {σ : Nat → Pl} {N : Nat} {xs ys : List AVal} {Xs Ys : Array Value} (hx : VRs σ N xs Xs) (hy : VRs σ N ys Ys) (w : World)
    (ih : ∀ t a b r, eqv t a b = some r → ∀ A B, VR σ N a A → VR σ N b B → (Op.equalIn d t A B).run P w = .ok r w) : ∀ (fs : List Field) (r : Bool), aeqF eqv P xs ys fs = some r → (Op.eqFields d Xs Ys fs).run P w = .ok r w
  | [], r, h => by simp [aeqF] at h; subst h; rfl
  | f :: fs, r, h => by
    simp only [aeqF] at h
    simp only [Op.eqFields]
    split at h
    · rename_i hf
      rw [if_neg (by simp [hf])]
      exact aeqF_ok hx hy w ih fs r h
    · rename_i hf
      rw [if_pos hf]
      split at h
      · rename_i a b ha hb
        split at h
        · rename_i r1 r2 h1 h2
          cases h
          obtain ⟨A, hA, hA'⟩ := apart_rel (P := P) hx ha w
          obtain ⟨B, hB, hB'⟩ := apart_rel (P := P) hy hb w
          simp only [Sem.run_bind, hA, hB, Result.andThen_ok, ih _ _ _ _ h1 A B hA' hB']
          cases r1
          · simp
          · simp [aeqF_ok hx hy w ih fs r2 h2]
        · cases h
      · cases h
theorem aeqS_ok {σ : Nat → Pl} {N : Nat} (w : World) : ∀ (d : Nat) (t : TypeId) (a b : AVal) (r : Bool), aeqS P d t a b = some r → ∀ A B, VR σ N a A → VR σ N b B → (Op.equalIn d t A B).run P w = .ok r w
  | 0, t, a, b, r, h => by simp [aeqS] at h
  | d + 1, t, a, b, r, h => fun A B hA hB => by
    simp only [aeqS] at h
    split at h
    · rename_i hd
      cases hA; cases hB; cases h
      exact run_equalIn_bool' _ _ _ _ _ hd
    · rename_i hd
      split at h
      · rename_i hk
        subst hk
        cases hA; cases hB; cases h
        exact run_equalIn_int _ _ _ _ _ _ _ hd
      · cases h
    · rename_i hd
      cases hA; cases hB; cases h
      rw [run_equalIn_string _ _ _ _ _ hd, ByteArray.toList_mk, ByteArray.toList_mk]
    · rename_i fs xs ys hd
      split at h
      · cases h
      · rename_i hst
        cases hA with
        | agg _ Xs hs1 h1 =>
          cases hB with
          | agg _ Ys hs2 h2 =>
            have hf : P.fieldsOf t = fs := by simp [Program.fieldsOf, hd]
            rw [run_equalIn_agg w d t Xs Ys (by rw [hf]; exact hd) (by simpa using hst), hf]
            exact aeqF_ok ⟨hs1, h1⟩ ⟨hs2, h2⟩ w (fun t a b r h => aeqS_ok w d t a b r h) fs.toList r h
    · cases h
def abinAgg (op : BinOp) (P : Program) (t : TypeId) (x y : AVal) (K : AVal → Prop) : Prop :=
  if P.eqGuardType P.depth t then False else
  match op, aeqS P 10000 t x y with
  | .eql, some r => K (.bool r)
  | .neq, some r => K (.bool (!r))
  | _, _ => False
theorem AVK.binAgg {o : Oper} {op : BinOp} {t t' : TypeId} {x y : Operand} {K : TVal → St → Prop} {v u : List AVal} (ho : o.op = .binOp op t x y t') (hx : st.ev x = .v (.agg v)) (hy : st.ev y = .v (.agg u))
    (h : abinAgg op P t (.agg v) (.agg u) (fun r => K (.v r) st)) : AVK P G o K st := by
  unfold abinAgg at h
  split at h
  · exact h.elim
  · rename_i hg
    split at h
    · rename_i r hr
      refine AVK.pure2 hx hy h fun σ N a' w V U hV hU h1 h2 => ⟨.bool r, ?_, .bool _⟩
      have he := aeqS_ok (P := P) w _ _ _ _ _ hr _ _ h1 h2
      cases h1; cases h2
      simp [execOp, ho, hV, hU, run_eqGuard_agg _ _ _ _ _ _ _ (by simpa using hg), run_eql_struct, he]
    · rename_i r hr
      refine AVK.pure2 hx hy h fun σ N a' w V U hV hU h1 h2 => ⟨.bool (!r), ?_, .bool _⟩
      have he := aeqS_ok (P := P) w _ _ _ _ _ hr _ _ h1 h2
      cases h1; cases h2
      simp [execOp, ho, hV, hU, run_eqGuard_agg _ _ _ _ _ _ _ (by simpa using hg), run_neq_struct, he]
    · exact h.elim
/-- An address, so many cells on. -/
def shift (x : TVal) (n : Nat) : Option TVal := match x with
  | .lp i o => some (.lp i (o + n))
  | .v (.ptr b o) => some (.v (.ptr b (o + n)))
  | .v (.gptr g o) => some (.v (.gptr g (o + n)))
  | _ => none
theorem shift_rel {σ : Nat → Pl} {lam : Nat → Nat} {N : Nat} {x y : TVal} {X : Value} {n : Nat} (h : TR σ lam N x X) (hy : shift x n = some y) : ∃ A, X = .pointer (some A) ∧ TR σ lam N y (.pointer (some (A.add n))) := by
  unfold shift at hy
  split at hy
  · cases hy
    refine ⟨_, h, ?_⟩
    rw [add_none]
    rfl
  · rename_i b o
    cases hy
    cases h with
    | ptr _ _ hb => refine ⟨_, rfl, ?_⟩; rw [add_none, Nat.add_assoc]; exact .ptr _ _ hb
  · cases hy
    cases h
    refine ⟨_, rfl, ?_⟩
    rw [add_none]
    exact .gptr _ _
  · cases hy
theorem shift_lp {x y : TVal} {n k o : Nat} (h : shift x n = some y) (hy : y = .lp k o) : ∃ o', x = .lp k o' := by
  unfold shift at h
  split at h <;> cases h <;> cases hy
  exact ⟨_, rfl⟩
/-- `fieldAddr`. -/
def fieldOff (P : Program) (s : TypeId) (f : Nat) : Option Nat := match P.underlying s with
  | some (.struct fs) => (match fs[f]? with
    | some fd => (match P.info? fd.type with
      | some i => if i.size = 0 then none else some fd.offset
      | none => none)
    | none => none)
  | _ => none
def afieldAddr (P : Program) (s : TypeId) (f : Nat) (x : TVal) (K : TVal → Prop) : Prop := match (fieldOff P s f).bind (shift x) with
  | some y => K y
  | none => False
theorem AVK.fieldAddr {o : Oper} {s : TypeId} {x : Operand} {f : Nat} {K : TVal → St → Prop} (ho : o.op = .fieldAddr s x f) (h : afieldAddr P s f (st.ev x) (fun t => K t st)) : AVK P G o K st := by
  unfold afieldAddr at h
  split at h
  · rename_i y hy
    obtain ⟨n, hn, hs⟩ := Option.bind_eq_some_iff.1 hy
    unfold fieldOff at hn
    split at hn
    · rename_i fs hfs
      split at hn
      · rename_i fd hfd
        split at hn
        · rename_i i hi
          split at hn
          · cases hn
          · rename_i hz
            cases hn
            refine AVK.value h fun σ lam w a hr => ?_
            obtain ⟨A, hA, hT⟩ := shift_rel (ev_rel hr x) hs
            refine ⟨_, ?_, hT, fun k o' he => ?_⟩
            · simp [execOp, ho, Instr.fieldAt, run_underlying hfs, hfd, hA, Instr.sureAddr, fieldPlace, run_size hi, hz]
            · obtain ⟨o'', hx⟩ := shift_lp hs he
              exact ev_lp hr hx
        · cases hn
      · cases hn
    · cases hn
  · exact h.elim
/-- `field`. -/
def afield (P : Program) (s : TypeId) (f : Nat) (x : TVal) (K : AVal → Prop) : Prop := match P.underlying s, x with
  | some (.struct fs), .v (.agg l) => (match fs[f]? with
    | some fd => (match apart P fd.type l fd.offset with
      | some v => K v
      | none => False)
    | none => False)
  | _, _ => False
theorem AVK.field {o : Oper} {s : TypeId} {x : Operand} {f : Nat} {K : TVal → St → Prop} (ho : o.op = .field s x f) (h : afield P s f (st.ev x) (fun v => K (.v v) st)) : AVK P G o K st := by
  unfold afield at h
  split at h
  · rename_i fs l hfs hx
    split at h
    · rename_i fd hfd
      split at h
      · rename_i v hv
        refine AVK.pure1 hx h fun σ N a w V hV h1 => ?_
        cases h1 with
        | agg _ cs hs hh =>
          obtain ⟨R, h2, h3⟩ := apart_rel (P := P) ⟨hs, hh⟩ hv w
          exact ⟨R, by simp [execOp, ho, Instr.field, run_underlying hfs, hfd, hV, asAgg, h2], h3⟩
      · exact h.elim
    · exact h.elim
  · exact h.elim
/-- `indexAddr`. -/
def aindexAddr (P : Program) (t : TypeId) (x i : TVal) (K : TVal → Prop) : Prop := match i with
  | .v (.int _ n) => (match P.underlying t with
    | some (.slice e) => (match P.info? e, x with
      | some ie, .v v => ∃ b o len c, v = .sl b o len c ∧ 0 ≤ n ∧ n < (len : Int) ∧ K (.v (.ptr b (o + n.toNat * ie.size)))
      | _, _ => False)
    | some (.array len e) => (match P.info? e with
      | some ie => 0 ≤ n ∧ n < (len : Int) ∧ (match shift x (n.toNat * ie.size) with
        | some y => K y
        | none => False)
      | none => False)
    | _ => False)
  | _ => False
theorem AVK.indexAddr {o : Oper} {t : TypeId} {x i : Operand} {K : TVal → St → Prop} (ho : o.op = .indexAddr t x i) (h : aindexAddr P t (st.ev x) (st.ev i) (fun t => K t st)) : AVK P G o K st := by
  unfold aindexAddr at h
  split at h
  · rename_i k n hi
    have heval : ∀ {σ : Nat → Pl} {lam : Nat → Nat} {w : World} {a : Act}, Rel G σ lam st w a → a.eval i = .int k n := fun hr => by
      have := ev_rel hr i
      rw [hi] at this
      generalize Act.eval _ i = V at this
      cases this; rfl
    split at h
    · rename_i e ht
      split at h
      · rename_i ie v he hx
        obtain ⟨b, o', len, c, rfl, h0, h1, hK⟩ := h
        refine AVK.value hK fun σ lam w a hr => ?_
        have hv := ev_rel hr x
        rw [hx] at hv
        have hb : b < st.heap.next ∧ ∃ C, a.eval x = .slice (some ⟨(σ b).g, (σ b).off + o', none⟩) len C := by
          generalize a.eval x = V at hv
          cases hv <;> exact ⟨by assumption, _, rfl⟩
        obtain ⟨hb, C, hX⟩ := hb
        refine ⟨.pointer (some ⟨(σ b).g, (σ b).off + (o' + n.toNat * ie.size), none⟩), ?_, .ptr _ _ hb, fun k o' he => by cases he⟩
        simp only [execOp, ho, Instr.indexAt, asIntOf, heval hr, hX, Sem.run_bind, Sem.run_pure, Result.andThen_ok, run_underlying ht, run_size he]
        simp [h0, h1, run_size he, add_none, Nat.add_assoc]
      · exact h.elim
    · rename_i len e ht
      split at h
      · rename_i ie he
        obtain ⟨h0, h1, h⟩ := h
        split at h
        · rename_i y hy
          refine AVK.value h fun σ lam w a hr => ?_
          obtain ⟨A, hA, hT⟩ := shift_rel (ev_rel hr x) hy
          refine ⟨_, ?_, hT, fun k o' he => ?_⟩
          · simp only [execOp, ho, Instr.indexAt, asIntOf, heval hr, hA, Sem.run_bind, Sem.run_pure, Result.andThen_ok, run_underlying ht, run_size he, Instr.sureAddr]
            simp [h0, h1, run_size he]
          · obtain ⟨o'', hx⟩ := shift_lp hy he
            exact ev_lp hr hx
        · exact h.elim
      · exact h.elim
    · exact h.elim
  · exact h.elim
end
end Go.Abs
namespace Go.Abs
section
variable {P : Program} {G : Nat → Option (List AVal)} {st : St}
theorem mk_size (l : List UInt8) : (⟨l.toArray⟩ : ByteArray).size = l.length := by simp [ByteArray.size]
theorem mk_get (l : List UInt8) (n : Nat) : (⟨l.toArray⟩ : ByteArray)[n]? = l[n]? := by
  rcases Nat.lt_or_ge n l.length with h | h
  · rw [ByteArray.getElem?_lt' _ _ (by rw [mk_size]; exact h), List.getElem?_eq_getElem h]
    simp [ByteArray.getElem_eq_getElem_data]
  · rw [ByteArray.getElem?_ge' _ _ (by rw [mk_size]; omega), List.getElem?_eq_none h]
theorem mk_extract (l : List UInt8) (a b : Nat) : (⟨l.toArray⟩ : ByteArray).extract a b = ⟨((l.drop a).take (b - a)).toArray⟩ := by
  apply ByteArray.ext
  apply Array.toList_inj.1
  simp [ByteArray.data_extract]
/-- `index`. -/
def aindex (P : Program) (t : TypeId) (x i : TVal) (K : AVal → Prop) : Prop := match x, i with
  | .v (.str s), .v (.int _ n) => (match P.underlying t with
    | some .string => 0 ≤ n ∧ ∃ c, s[n.toNat]? = some c ∧ K (.int .u8 c.toNat)
    | _ => False)
  | .v (.agg l), .v (.int _ n) => (match P.underlying t with
    | some (.array len e) => (match P.info? e with
      | some ie => 0 ≤ n ∧ n < (len : Int) ∧ ∃ v, apart P e l (n.toNat * ie.size) = some v ∧ K v
      | none => False)
    | _ => False)
  | _, _ => False
theorem AVK.index {o : Oper} {t : TypeId} {x i : Operand} {K : TVal → St → Prop} (ho : o.op = .index t x i) (h : aindex P t (st.ev x) (st.ev i) (fun v => K (.v v) st)) : AVK P G o K st := by
  unfold aindex at h
  split at h
  · rename_i s k n hx hi
    split at h
    · rename_i ht
      obtain ⟨h0, c, hc, hK⟩ := h
      refine AVK.pure2 hx hi hK fun σ N a w V U hV hU h1 h2 => ⟨.int .u8 c.toNat, ?_, .int _ _⟩
      cases h1; cases h2
      simp only [execOp, ho, Instr.index, hV, hU, asIntOf, Sem.run_bind, Sem.run_pure, Result.andThen_ok, run_underlying ht]
      rw [if_pos h0, mk_get, hc]
      rfl
    · exact h.elim
  · rename_i l k n hx hi
    split at h
    · rename_i len e ht
      split at h
      · rename_i ie he
        obtain ⟨h0, h1, v, hv, hK⟩ := h
        refine AVK.pure2 hx hi hK fun σ N a w V U hV hU h2 h3 => ?_
        cases h3
        cases h2 with
        | agg _ cs hs hh =>
          obtain ⟨R, h4, h5⟩ := apart_rel (P := P) ⟨hs, hh⟩ hv w
          refine ⟨R, ?_, h5⟩
          simp only [execOp, ho, Instr.index, hV, hU, asIntOf, Sem.run_bind, Sem.run_pure, Result.andThen_ok, run_underlying ht]
          simp [h0, h1, run_size he, h4]
      · exact h.elim
    · exact h.elim
  · exact h.elim
/-- `extract`. -/
def aextract (x : TVal) (i : Nat) (K : AVal → Prop) : Prop := match x with
  | .v (.tup l) => (match l[i]? with
    | some v => K v
    | none => False)
  | _ => False
theorem AVK.extract {o : Oper} {x : Operand} {i : Nat} {K : TVal → St → Prop} (ho : o.op = .extract x i) (h : aextract (st.ev x) i (fun v => K (.v v) st)) : AVK P G o K st := by
  unfold aextract at h
  split at h
  · rename_i l hx
    split at h
    · rename_i v hv
      refine AVK.pure1 hx h fun σ N a w V hV h1 => ?_
      cases h1 with
      | tup _ cs hs hh =>
        have hi : i < cs.size := by rw [hs]; exact (List.getElem?_eq_some_iff.1 hv).1
        exact ⟨cs[i], by simp [execOp, ho, Instr.extract, hV, hi], hh _ _ _ hv (by simp [hi])⟩
    · exact h.elim
  · exact h.elim
/-- One operand. -/
def aunary (op : UnOp) (x : TVal) (K : AVal → Prop) : Prop := match op, x with
  | .not, .v (.bool b) => K (.bool (!b))
  | .neg, .v (.int k n) => K (.int k (k.wrap (0 - n)))
  | .xor, .v (.int k n) => K (.int k (k.wrap (BitVec.ofInt k.bits (if k.signed then -1 else k.max) ^^^ BitVec.ofInt k.bits n).toNat))
  | _, _ => False
theorem AVK.unary {o : Oper} {op : UnOp} {t : TypeId} {x : Operand} {K : TVal → St → Prop} (ho : o.op = .unOp op t x) (h : aunary op (st.ev x) (fun v => K (.v v) st)) : AVK P G o K st := by
  unfold aunary at h
  split at h
  · rename_i b hx
    refine AVK.pure1 hx h fun σ N a w V hV h1 => ⟨.bool (!b), ?_, .bool _⟩
    cases h1
    simp [execOp, ho, Op.unary, hV]
  · rename_i k n hx
    refine AVK.pure1 hx h fun σ N a w V hV h1 => ⟨_, ?_, .int _ _⟩
    cases h1
    simp only [execOp, ho, Op.unary, hV, Op.intArith]
    rfl
  · rename_i k n hx
    refine AVK.pure1 hx h fun σ N a w V hV h1 => ⟨_, ?_, .int _ _⟩
    cases h1
    simp only [execOp, ho, Op.unary, hV, Op.intBits]
    rfl
  · exact h.elim
/-- Conversions that leave the memory. -/
def aconv (P : Program) (src dst : TypeId) (x : TVal) (K : AVal → Prop) : Prop := match P.underlying src, P.underlying dst, x with
  | some _, some (.int k), .v (.int _ n) => K (.int k (k.wrap n))
  | some _, some .string, .v (.int _ n) => K (.str (Utf8.encode n).data.toList)
  | some .string, some .string, .v (.str s) => K (.str s)
  | _, _, _ => False
theorem AVK.conv {o : Oper} {src dst : TypeId} {x : Operand} {K : TVal → St → Prop} (ho : o.op = .convert src dst x) (h : aconv P src dst (st.ev x) (fun v => K (.v v) st)) : AVK P G o K st := by
  unfold aconv at h
  split at h
  · rename_i d k k' n hs hd hx
    refine AVK.pure1 hx h fun σ N a w V hV h1 => ⟨_, ?_, .int _ _⟩
    cases h1
    simp only [execOp, ho, convert, hV, Sem.run_bind, run_underlying hs, run_underlying hd, Result.andThen_ok]
    cases d <;> rfl
  · rename_i d k' n hs hd hx
    refine AVK.pure1 hx h fun σ N a w V hV h1 => ⟨.string (Utf8.encode n), ?_, ?_⟩
    · cases h1
      simp only [execOp, ho, convert, hV, Sem.run_bind, run_underlying hs, run_underlying hd, Result.andThen_ok]
      cases d <;> rfl
    · have := VR.str (σ := σ) (N := N) (Utf8.encode n).data.toList
      simpa using this
  · rename_i s hs hd hx
    refine AVK.pure1 hx h fun σ N a w V hV h1 => ⟨_, ?_, .str _⟩
    cases h1
    simp only [execOp, ho, convert, hV, Sem.run_bind, run_underlying hs, run_underlying hd, Result.andThen_ok]
    rfl
  · exact h.elim
/-- `nilCheck` of what is surely none. -/
def anil (x : TVal) (K : TVal → Prop) : Prop := match x with
  | .lp i o => K (.lp i o)
  | .v (.ptr b o) => K (.v (.ptr b o))
  | .v (.gptr b o) => K (.v (.gptr b o))
  | .v (.func (.func f) fs cs) => K (.v (.func (.func f) fs cs))
  | .v _ => ∃ b o, x = .v (.ptr b o) ∧ K (.v (.ptr b o))
theorem AVK.nilCheck {o : Oper} {x : Operand} {K : TVal → St → Prop} (ho : o.op = .nilCheck x) (h : anil (st.ev x) (fun t => K t st)) : AVK P G o K st := by
  have ptr : ∀ t, (∀ σ lam N V, TR σ lam N t V → ∃ A, V = .pointer (some A)) → st.ev x = t → K t st → AVK P G o K st := fun t ht hx hK =>
    AVK.value hK fun σ lam w a hr => by
      have hT := ev_rel hr x
      obtain ⟨A, hA⟩ := ht _ _ _ _ (hx ▸ hT)
      refine ⟨a.eval x, by simp [execOp, ho, hA], hx ▸ hT, fun k o' he => ev_lp hr (hx.trans he)⟩
  unfold anil at h
  split at h
  · rename_i i o' hx
    exact ptr (.lp i o') (fun σ lam N V hT => ⟨⟨lam i, o', none⟩, hT⟩) hx h
  · rename_i b o' hx
    exact ptr _ (fun σ lam N V hT => by cases hT; exact ⟨_, rfl⟩) hx h
  · rename_i b o' hx
    exact ptr _ (fun σ lam N V hT => by cases hT; exact ⟨_, rfl⟩) hx h
  · rename_i f fs cs hx
    refine AVK.pure1 hx h fun σ N a w V hV h1 => ⟨V, ?_, h1⟩
    cases h1
    simp [execOp, ho, hV]
  · obtain ⟨b, o', hx, hK⟩ := h
    exact ptr _ (fun σ lam N V hT => by cases hT; exact ⟨_, rfl⟩) hx hK
/-- How many elements a slice has. -/
def slen : AVal → Option Nat
  | .sl _ _ n _ => some n
  | .esl => some 0
  | .nilsl => some 0
  | _ => none
theorem slen_rel {σ : Nat → Pl} {N : Nat} {v : AVal} {V : Value} {n : Nat} (h : VR σ N v V) (hn : slen v = some n) : ∃ A C, V = .slice A n C ∧ n ≤ C := by
  cases h <;> simp only [slen, Option.some.injEq] at hn <;> first
    | (cases hn; done)
    | (subst hn; first
      | exact ⟨_, _, rfl, by assumption⟩
      | exact ⟨_, _, rfl, by omega⟩)
def Cap.drop (c : Cap) (n : Nat) : Cap := match c with
  | .exact k => .exact (k - n)
  | .rest k => .rest (k + n)
/-- A part of a slice: from l to h, elements of es cells. -/
def subsl (v : AVal) (l h es : Nat) : AVal := match v with
  | .sl b o len c => if l < h then .sl b (o + l * es) (h - l) (c.drop l) else if l = 0 then .sl b o 0 c else .esl
  | .esl => .esl
  | .nilsl => .nilsl
  | _ => .undef
/-- A bound of a part: a number from 0 on; d where there is none. -/
def abound (i : Option TVal) (d : Nat) (K : Nat → Prop) : Prop := match i with
  | none => K d
  | some (.v (.int _ n)) => 0 ≤ n ∧ K n.toNat
  | some _ => False
def aslice (P : Program) (t : TypeId) (x : TVal) (lo hi mx : Option TVal) (K : AVal → Prop) : Prop := match P.underlying t, x, mx with
  | some .string, .v (.str s), none => abound hi s.length fun h => abound lo 0 fun l => l ≤ h ∧ h ≤ s.length ∧ K (.str ((s.drop l).take (h - l)))
  | some (.slice e), .v v, none => (match P.info? e with
    | some ie => ∃ n, slen v = some n ∧ abound hi n fun h => abound lo 0 fun l => l ≤ h ∧ h ≤ n ∧ K (subsl v l h ie.size)
    | none => False)
  | _, _, _ => False
theorem run_bound {i : Option TVal} {d : Nat} {K : Nat → Prop} (h : abound i d K) : ∃ n, K n ∧ ((i = none ∧ n = d) ∨ ∃ k z, i = some (.v (.int k z)) ∧ 0 ≤ z ∧ n = z.toNat) := by
  unfold abound at h
  split at h
  · exact ⟨d, h, .inl ⟨rfl, rfl⟩⟩
  · rename_i k z
    exact ⟨_, h.2, .inr ⟨k, z, rfl, h.1, rfl⟩⟩
  · exact h.elim
theorem run_sliceBound (k : IntKind) (z : Int) (y : Nat) (c : BoundsCode) (h0 : 0 ≤ z) (h1 : z ≤ y) (w : World) : (Instr.sliceBound (.int k z) y c).run P w = .ok z.toNat w := by
  simp [Instr.sliceBound, asIntOf, h0, h1]
theorem run_sliceBounds {lo hi : Option TVal} {Lo Hi : Option Value} {isS : Bool} {len cap l h d : Nat} (w : World) (hc : h ≤ cap) (hlh : l ≤ h)
    (hlo : (lo = none ∧ l = 0 ∧ Lo = none) ∨ ∃ k z, 0 ≤ z ∧ l = z.toNat ∧ Lo = some (.int k z)) (hhi : (hi = none ∧ h = len ∧ Hi = none) ∨ ∃ k z, 0 ≤ z ∧ h = z.toNat ∧ Hi = some (.int k z)) :
    (Instr.sliceBounds isS len cap Lo Hi none).run P w = .ok (l, h, cap) w := by
  rcases hhi with ⟨_, rfl, rfl⟩ | ⟨k, z, hz, rfl, rfl⟩ <;> rcases hlo with ⟨_, rfl, rfl⟩ | ⟨k', z', hz', rfl, rfl⟩
  · simp [Instr.sliceBounds]
  · have e1 := run_sliceBound (P := P) k' z' h .sliceB hz' (by omega) w
    simp [Instr.sliceBounds, e1]
  · have e1 := fun c => run_sliceBound (P := P) k z cap c hz (by omega) w
    simp [Instr.sliceBounds, e1]
  · have e1 := fun c => run_sliceBound (P := P) k z cap c hz (by omega) w
    have e2 := run_sliceBound (P := P) k' z' z.toNat .sliceB hz' (by omega) w
    simp [Instr.sliceBounds, e1, e2]
theorem subsl_rel {σ : Nat → Pl} {N : Nat} {v : AVal} {A : Option Addr} {n C l h es : Nat} (hv : VR σ N v (.slice A n C)) (hn : slen v = some n) (hlh : l ≤ h) (hh : h ≤ n) :
    VR σ N (subsl v l h es) (.slice (if C = l then A else A.map (·.add (l * es))) (h - l) (C - l)) := by
  cases hv with
  | slx b o len n hb hl =>
    simp only [slen, Option.some.injEq] at hn
    simp only [subsl]
    split
    · rename_i hlt
      rw [if_neg (by omega)]
      simp only [Option.map_some, add_none, Nat.add_assoc, Cap.drop]
      exact .slx _ _ _ _ hb (by omega)
    · rename_i hlt
      have : h = l := by omega
      subst this
      split
      · rename_i h0
        subst h0
        simp only [Nat.sub_zero, Nat.zero_mul, Nat.sub_self]
        have : (if C = 0 then some (⟨(σ b).g, (σ b).off + o, none⟩ : Addr) else (some ⟨(σ b).g, (σ b).off + o, none⟩ : Option Addr).map (·.add 0)) = some ⟨(σ b).g, (σ b).off + o, none⟩ := by
          split <;> simp [Addr.add]
        rw [this]
        exact .slx _ _ _ _ hb (Nat.zero_le _)
      · rw [Nat.sub_self]; exact .esl _ _
  | slr b o len k hb hl =>
    simp only [slen, Option.some.injEq] at hn
    simp only [subsl]
    split
    · rename_i hlt
      rw [if_neg (by omega)]
      simp only [Option.map_some, add_none, Nat.add_assoc, Cap.drop]
      have := VR.slr (σ := σ) (N := N) b (o + l * es) (h - l) (k + l) hb (by omega)
      have e : (σ b).cap - (k + l) = (σ b).cap - k - l := by omega
      rw [e] at this
      exact this
    · rename_i hlt
      have : h = l := by omega
      subst this
      split
      · rename_i h0
        subst h0
        simp only [Nat.sub_zero, Nat.zero_mul, Nat.sub_self]
        have : (if (σ b).cap - k = 0 then some (⟨(σ b).g, (σ b).off + o, none⟩ : Addr) else (some ⟨(σ b).g, (σ b).off + o, none⟩ : Option Addr).map (·.add 0)) = some ⟨(σ b).g, (σ b).off + o, none⟩ := by
          split <;> simp [Addr.add]
        rw [this]
        exact .slr _ _ _ _ hb (by omega)
      · rw [Nat.sub_self]; exact .esl _ _
  | esl => 
    simp only [subsl]
    have : h - l = 0 := by omega
    rw [this]; exact .esl _ _
  | nilsl =>
    have h0 : h = 0 := by omega
    have l0 : l = 0 := by omega
    subst h0; subst l0
    exact .nilsl
  | undef => simp [slen] at hn
theorem map_ev_bound {σ : Nat → Pl} {lam : Nat → Nat} {w : World} {a : Act} (hr : Rel G σ lam st w a) {i : Option Operand} {d n : Nat} (h : (i.map st.ev = none ∧ n = d) ∨ ∃ k z, i.map st.ev = some (.v (.int k z)) ∧ 0 ≤ z ∧ n = z.toNat) :
    (i.map st.ev = none ∧ n = d ∧ i.map a.eval = none) ∨ ∃ k z, 0 ≤ z ∧ n = z.toNat ∧ i.map a.eval = some (.int k z) := by
  rcases h with ⟨h, rfl⟩ | ⟨k, z, h, hz, rfl⟩
  · cases i with
    | none => exact .inl ⟨rfl, rfl, rfl⟩
    | some x => cases h
  · cases i with
    | none => cases h
    | some x =>
      simp only [Option.map_some, Option.some.injEq] at h
      have := ev_rel hr x
      rw [h] at this
      refine .inr ⟨k, z, hz, rfl, ?_⟩
      simp only [Option.map_some, Option.some.injEq]
      generalize a.eval x = V at this
      cases this; rfl
theorem AVK.slice {o : Oper} {t : TypeId} {x : Operand} {lo hi mx : Option Operand} {K : TVal → St → Prop} (ho : o.op = .slice t x lo hi mx)
    (h : aslice P t (st.ev x) (lo.map st.ev) (hi.map st.ev) (mx.map st.ev) (fun v => K (.v v) st)) : AVK P G o K st := by
  unfold aslice at h
  split at h
  · rename_i s ht hx hm
    obtain ⟨hn, h, hhi⟩ := run_bound h
    obtain ⟨ln, ⟨hlh, hle, hK⟩, hlo⟩ := run_bound h
    refine AVK.value hK fun σ lam w a hr => ?_
    have hv := ev_rel hr x
    rw [hx] at hv
    have hX : a.eval x = .string ⟨s.toArray⟩ := by
      generalize a.eval x = V at hv
      cases hv; rfl
    have hmx : mx = none := by cases mx <;> simp_all
    subst hmx
    have hb := run_sliceBounds (P := P) (isS := false) (len := (⟨s.toArray⟩ : ByteArray).size) (cap := (⟨s.toArray⟩ : ByteArray).size) (d := 0) w (by rw [mk_size]; exact hle) hlh (map_ev_bound hr hlo) (by rw [mk_size]; exact map_ev_bound hr hhi)
    refine ⟨.string ((⟨s.toArray⟩ : ByteArray).extract ln hn), ?_, ?_, fun k o' he => by cases he⟩
    · simp [execOp, ho, Instr.sliceAt, Instr.slice, run_underlying ht, hX, hb]
    · rw [mk_extract]; exact .str _
  · rename_i e v ht hx hm
    split at h
    · rename_i ie hie
      obtain ⟨n, hn, h⟩ := h
      obtain ⟨hn', h, hhi⟩ := run_bound h
      obtain ⟨ln, ⟨hlh, hle, hK⟩, hlo⟩ := run_bound h
      refine AVK.value hK fun σ lam w a hr => ?_
      have hv := ev_rel hr x
      rw [hx] at hv
      obtain ⟨A, C, hX, hC⟩ := slen_rel hv hn
      have hmx : mx = none := by cases mx <;> simp_all
      subst hmx
      have hb := run_sliceBounds (P := P) (isS := true) (len := n) (cap := C) (d := 0) w (by omega) hlh (map_ev_bound hr hlo) (map_ev_bound hr hhi)
      refine ⟨_, ?_, subsl_rel (es := ie.size) (by rw [← hX]; exact hv) hn hlh hle, fun k o' he => by cases he⟩
      simp [execOp, ho, Instr.sliceAt, Instr.slice, run_underlying ht, hX, hb, run_size hie]
    · exact h.elim
  · exact h.elim
/-- `len`. -/
def alen (P : Program) (t : TypeId) (x : TVal) (K : AVal → Prop) : Prop := match P.underlying t, x with
  | some .string, .v (.str s) => K (.int .i64 s.length)
  | some (.slice _), .v v => ∃ n : Nat, slen v = some n ∧ K (.int .i64 n)
  | some (.array n _), _ => K (.int .i64 n)
  | _, _ => False
theorem AVK.len {o : Oper} {t : TypeId} {ts : Array TypeId} {x : Operand} {K : TVal → St → Prop} (ho : o.op = .call { callee := .builtin .len, args := #[x], argTypes := ts }) (hts : ts[0]? = some t)
    (h : alen P t (st.ev x) (fun v => K (.v v) st)) : AVK P G o K st := by
  unfold alen at h
  split at h
  · rename_i s ht hx
    refine AVK.pure1 hx h fun σ N a w V hV h1 => ⟨_, ?_, .int _ _⟩
    cases h1
    simp [execOp, ho, resolve, invoke, builtin, Builtin.len_, hts, run_underlying ht, hV, goInt, mk_size]
  · rename_i e v ht hx
    obtain ⟨n, hn, hK⟩ := h
    refine AVK.pure1 hx hK fun σ N a w V hV h1 => ⟨.int .i64 n, ?_, .int _ _⟩
    obtain ⟨A, C, rfl, _⟩ := slen_rel h1 hn
    simp [execOp, ho, resolve, invoke, builtin, Builtin.len_, hts, run_underlying ht, hV, goInt]
  · rename_i y n e ht
    refine AVK.value h fun σ lam w a hr => ⟨.int .i64 n, ?_, .int _ _, fun k o' he => by cases he⟩
    simp [execOp, ho, resolve, invoke, builtin, Builtin.len_, hts, run_underlying ht, goInt]
  · exact h.elim
end
end Go.Abs

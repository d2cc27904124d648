/- The theory of abstract runs, part 5: what a contract says, and that the executor keeps it. Of no program. -/
import Derived.Test.YtelbekgmijpacaaGreatDoorT4
import Derived.StillTail
import Derived.Lib.Builder
import Derived.Lib.UnsafeStr
import Derived.Laws.LoneSync
namespace Go.Abs
section
variable {P : Program} {G : Nat → Option (List AVal)}
/-- The slots of a list alone; of the others nothing is known. -/
def mask (L : List Nat) (e : List TVal) : List TVal := e.mapIdx fun i t => if L.contains i then t else .v .undef
theorem mask_length (L : List Nat) (e : List TVal) : (mask L e).length = e.length := by simp [mask]
theorem mask_get (L : List Nat) (e : List TVal) (i : Nat) : (mask L e)[i]? = (e[i]?).map fun t => if L.contains i then t else .v .undef := by simp [mask]
theorem EnvRel.mask {σ : Nat → Pl} {lam : Nat → Nat} {N L : Nat} {env : List TVal} {tmps : Array Value} (h : EnvRel σ lam N L env tmps) (S : List Nat) : EnvRel σ lam N L (mask S env) tmps := by
  refine ⟨by rw [mask_length]; exact h.1, fun i t V ht hV => ?_, fun i k o hi => ?_⟩
  · rw [mask_get] at ht
    cases he : env[i]? with
    | none => rw [he] at ht; cases ht
    | some t0 =>
      rw [he] at ht
      simp only [Option.map_some, Option.some.injEq] at ht
      split at ht
      · subst ht; exact h.2.1 i _ V he hV
      · subst ht; exact .undef _
  · rw [mask_get] at hi
    cases he : env[i]? with
    | none => rw [he] at hi; cases hi
    | some t0 =>
      rw [he] at hi
      simp only [Option.map_some, Option.some.injEq] at hi
      split at hi
      · subst hi; exact h.2.2 i k o he
      · cases hi
theorem mask_congr {L : List Nat} {e e' : List TVal} (hl : e.length = e'.length) (h : ∀ t ∈ L, e[t]? = e'[t]?) : mask L e = mask L e' := by
  apply List.ext_getElem?
  intro i
  rw [mask_get, mask_get]
  by_cases hi : L.contains i = true
  · rw [h i (by simpa using hi)]
  · rcases Nat.lt_or_ge i e.length with h1 | h1
    · rw [List.getElem?_eq_getElem h1, List.getElem?_eq_getElem (by omega)]
      simp only [Option.map_some, hi]
      rfl
    · rw [List.getElem?_eq_none h1, List.getElem?_eq_none (by omega)]
/-- An operation that is shown at the slots that it looks at. -/
theorem AO.unmask {o : Oper} {L : List Nat} {env : List TVal} {loc : Loc} {heap : AHeap} {K : TVal → St → Prop} {Kx : AVal → St → Prop}
    (h : AO P G o (fun t s => K t ⟨env, s.loc, s.heap⟩) (fun v s => Kx v ⟨env, s.loc, s.heap⟩) ⟨mask L env, loc, heap⟩) : AO P G o K Kx ⟨env, loc, heap⟩ := fun σ lam w a hr next Q hn hx => by
  have up : ∀ {st' : St} {w' : World} {σ' : Nat → Pl} {lam' : Nat → Nat}, AQ1 G σ lam ⟨mask L env, loc, heap⟩ w .normal st' .normal a w' σ' lam' → AQ1 G σ lam ⟨env, loc, heap⟩ w .normal ⟨env, st'.loc, st'.heap⟩ .normal a w' σ' lam' := fun {st' w' σ' lam'} q =>
    ⟨.normal, ⟨q.rel.heap, q.rel.loc, hr.env.mono q.next q.agree q.len q.same, q.rel.defers⟩, q.agree, q.next, q.len, q.same, q.evo⟩
  refine h σ lam w a ⟨hr.heap, hr.loc, hr.env.mask L, hr.defers⟩ next Q (fun t st' V w' σ' lam' hK hor => ?_) (fun v st' V w' σ' lam' hK hv q => ?_)
  · exact hn t _ V w' σ' lam' hK ⟨up hor.q, hor.tr, hor.lp⟩
  · exact hx v _ V w' σ' lam' hK hv (up q)
def putE (ops : Array Oper) (e : List TVal) (j : Nat) (t : TVal) : List TVal := match (ops[j]?).bind (·.dst) with
  | some d => e.set d t
  | none => e
/-- The slots when those of a set have come up, in their order. -/
def envN (ops : Array Oper) (D : Nat → TVal) (e0 : List TVal) (lis : Nat → Bool) : Nat → List TVal
  | 0 => e0
  | n + 1 => if lis n then putE ops (envN ops D e0 lis n) n (D n) else envN ops D e0 lis n
def cnt (p : Nat → Bool) : Nat → Nat
  | 0 => 0
  | n + 1 => cnt p n + (if p n then 1 else 0)
theorem cnt_congr {p q : Nat → Bool} : ∀ {n : Nat}, (∀ j, j < n → p j = q j) → cnt p n = cnt q n
  | 0, _ => rfl
  | n + 1, h => by simp only [cnt]; rw [cnt_congr fun j hj => h j (by omega), h n (by omega)]
theorem cnt_le {p q : Nat → Bool} : ∀ {n : Nat}, (∀ j, j < n → p j = true → q j = true) → cnt p n ≤ cnt q n
  | 0, _ => Nat.le_refl _
  | n + 1, h => by
    simp only [cnt]
    have := cnt_le (p := p) (q := q) (n := n) fun j hj => h j (by omega)
    have h2 := h n (by omega)
    split <;> split <;> simp_all <;> omega
theorem cnt_add {p : Nat → Bool} {i : Nat} (hp : p i = false) : ∀ {n : Nat}, i < n → cnt (fun j => p j || j == i) n = cnt p n + 1
  | 0, h => by omega
  | n + 1, h => by
    simp only [cnt]
    by_cases hi : i = n
    · subst hi
      rw [cnt_congr (q := p) (n := i) fun j hj => by have : (j == i) = false := by simpa using (by omega : j ≠ i)
                                                     simp [this]]
      simp [hp]
    · rw [cnt_add hp (by omega : i < n)]
      have : (n == i) = false := by simpa using fun h => hi h.symm
      simp only [this, Bool.or_false]
      omega
theorem cnt_zero {p : Nat → Bool} : ∀ {n : Nat}, cnt p n = 0 → ∀ j, j < n → p j = false
  | 0, _, j, hj => by omega
  | n + 1, h, j, hj => by
    simp only [cnt] at h
    by_cases hjn : j = n
    · subst hjn
      cases hl : p j with
      | false => rfl
      | true => simp [hl] at h
    · exact cnt_zero (Nat.add_eq_zero_iff.1 h).1 j (by omega)
theorem cnt_first {p : Nat → Bool} : ∀ {n : Nat}, cnt p n ≠ 0 → ∃ j, j < n ∧ p j = true ∧ ∀ i, i < j → p i = false
  | 0, h => by simp [cnt] at h
  | n + 1, h => by
    by_cases h1 : cnt p n = 0
    · refine ⟨n, by omega, ?_, cnt_zero h1⟩
      simp only [cnt, h1] at h
      cases hl : p n with
      | true => rfl
      | false => simp [hl] at h
    · obtain ⟨j, hj, h2⟩ := cnt_first h1
      exact ⟨j, by omega, h2⟩
variable {ops : Array Oper} {D : Nat → TVal} {e0 : List TVal}
theorem putE_length (e : List TVal) (j : Nat) (t : TVal) : (putE ops e j t).length = e.length := by
  unfold putE
  split <;> simp
theorem envN_length (lis : Nat → Bool) : ∀ n, (envN ops D e0 lis n).length = e0.length
  | 0 => rfl
  | n + 1 => by
    simp only [envN]
    split
    · rw [putE_length, envN_length lis n]
    · exact envN_length lis n
theorem envN_congr {lis lis' : Nat → Bool} : ∀ {n : Nat}, (∀ j, j < n → lis j = lis' j) → envN ops D e0 lis n = envN ops D e0 lis' n
  | 0, _ => rfl
  | n + 1, h => by simp only [envN]; rw [envN_congr fun j hj => h j (by omega), h n (by omega)]
theorem envN_slot {lis lis' : Nat → Bool} (t : Nat) : ∀ {n : Nat}, (∀ j, j < n → (ops[j]?).bind (·.dst) = some t → lis j = lis' j) → (envN ops D e0 lis n)[t]? = (envN ops D e0 lis' n)[t]?
  | 0, _ => rfl
  | n + 1, h => by
    have ih := envN_slot (lis := lis) (lis' := lis') t (n := n) fun j hj => h j (by omega)
    simp only [envN]
    by_cases hd : (ops[n]?).bind (·.dst) = some t
    · rw [h n (by omega) hd]
      split
      · simp only [putE, hd]
        rw [List.getElem?_set, List.getElem?_set, envN_length, envN_length]
        simp
      · exact ih
    · have off : ∀ e : List TVal, (putE ops e n (D n))[t]? = e[t]? := fun e => by
        unfold putE
        split
        · rename_i d hd'
          rw [List.getElem?_set, if_neg]
          intro e
          subst e
          exact hd hd'
        · rfl
      split <;> split <;> simp only [off, ih]
theorem envN_add {lis : Nat → Bool} {i : Nat} (hi : lis i = false) : ∀ {n : Nat}, i < n → (∀ j d, i < j → j < n → lis j = true → (ops[j]?).bind (·.dst) = some d → (ops[i]?).bind (·.dst) ≠ some d) →
    envN ops D e0 (fun j => lis j || j == i) n = putE ops (envN ops D e0 lis n) i (D i)
  | 0, h, _ => by omega
  | n + 1, h, hw => by
    simp only [envN]
    by_cases hin : i = n
    · subst hin
      rw [envN_congr (lis' := lis) (n := i) fun j hj => by have : (j == i) = false := by simpa using (by omega : j ≠ i)
                                                           simp [this]]
      simp [hi]
    · have hne : (n == i) = false := by simpa using fun h => hin h.symm
      rw [envN_add hi (by omega : i < n) fun j d h1 h2 => hw j d h1 (by omega)]
      simp only [hne, Bool.or_false]
      cases hl : lis n with
      | false => rfl
      | true =>
        simp only [if_true]
        cases hd : (ops[n]?).bind (·.dst) with
        | none => simp only [putE, hd]
        | some d =>
          have hdi := hw n d (by omega) (by omega) hl hd
          cases hdi' : (ops[i]?).bind (·.dst) with
          | none => simp only [putE, hd, hdi']
          | some d' =>
            simp only [putE, hd, hdi']
            rw [List.set_comm]
            intro e
            subst e
            exact hdi hdi'
/-- What a new block's value looks like. -/
inductive NV where
  | map
  | sl (len : Nat)
  | ptr
def NV.is : NV → Value → Pl → Prop
  | .map, V, p => V = .map (some p.g)
  | .sl n, V, p => V = .slice (some ⟨p.g, 0, none⟩) n p.cap ∧ n ≤ p.cap ∧ p.off = 0
  | .ptr, V, p => V = .pointer (some ⟨p.g, 0, none⟩) ∧ p.off = 0
def NV.val : NV → Nat → AVal
  | .map, n => .map n
  | .sl len, n => .sl n 0 len (.rest 0)
  | .ptr, n => .ptr n 0
theorem NV.rel {nv : NV} {V : Value} {p : Pl} (h : nv.is V p) (σ : Nat → Pl) (n : Nat) : VR (upd σ n p) (n + 1) (nv.val n) V := by
  cases nv with
  | map =>
    have h' : V = .map (some p.g) := h
    subst h'
    have := VR.map (σ := upd σ n p) (N := n + 1) n (Nat.lt_succ_self _)
    rwa [upd_at] at this
  | sl len =>
    obtain ⟨rfl, h1, h2⟩ := h
    have := VR.slr (σ := upd σ n p) (N := n + 1) n 0 len 0 (Nat.lt_succ_self _) (by rw [upd_at]; exact h1)
    rw [upd_at, h2] at this
    exact this
  | ptr =>
    obtain ⟨rfl, h2⟩ := h
    have := VR.ptr (σ := upd σ n p) (N := n + 1) n 0 (Nat.lt_succ_self _)
    rw [upd_at, h2] at this
    exact this
/-- An operation that makes a block. -/
def NO (P : Program) (G : Nat → Option (List AVal)) (o : Oper) (nv : NV) (blk : ABlk) (st : St) : Prop :=
  ∀ σ lam w a, Rel G σ lam st w a → ∃ obj V cap, (execOp a.eval o).run P w = .ok (.value V) (w.alloc obj) ∧ nv.is V ⟨w.heap.size, 0, cap⟩ ∧ BlkR σ st.heap.next ⟨w.heap.size, 0, cap⟩ (w.alloc obj) blk
/-- One that writes into such a block, which is found in a slot. -/
def InsO (P : Program) (G : Nat → Option (List AVal)) (o : Oper) (d : Option Tmp) (nv : NV) (blk blk' : ABlk) (st : St) : Prop :=
  ∀ σ lam w a, Rel G σ lam st w a → ∀ p, (∀ d', d = some d' → ∀ V, a.tmps[d']? = some V → nv.is V p) → BlkR σ st.heap.next p w blk → ∃ obj, (execOp a.eval o).run P w = .ok .skip (setBlk w p.g obj) ∧ BlkR σ st.heap.next p (setBlk w p.g obj) blk'
/-- What is said of a region's operations. -/
structure Plan where
  anc : Nat → Nat → Bool
  E : Nat → Bool
  D : Nat → TVal
  M : Nat → Loc × AHeap
  pan : Option Nat
  h : Nat
  N : Nat → Option NV
  I : Nat → Option Nat
  cont : Nat → (Nat → Bool) → ABlk
def dstOf (ops : Array Oper) (i : Nat) : Option Tmp := (ops[i]?).bind (·.dst)
structure PlanOk (ops : Array Oper) (p : Plan) : Prop where
  h : p.h ≤ ops.size
  after : ∀ i o, ops[i]? = some o → ∀ e ∈ o.after, Region.binds .any e = true → e.on < i
  anc : ∀ i j, i < ops.size → p.anc i j = true → ∃ o, ops[i]? = some o ∧ ∃ e ∈ o.after, Region.binds .any e = true ∧ (j = e.on ∨ p.anc e.on j = true)
  slots : ∀ i o t, ops[i]? = some o → (t ∈ o.looksAt ops ∨ o.dst = some t) → ∀ j o', ops[j]? = some o' → o'.dst = some t → (j < i → p.anc i j = true) ∧ (i < j → p.anc j i = true)
  chain : ∀ i j, i < j → j < ops.size → p.E i = true → p.E j = true → p.anc j i = true
  pan : ∀ r, p.pan = some r → r < ops.size ∧ p.E r = true
  tail : ∀ t j, p.h ≤ t → t < ops.size → j < t → p.anc t j = true
  tailE : ∀ t, p.h ≤ t → p.E t = false ∧ p.N t = none ∧ p.I t = none
  new : ∀ i nv, p.N i = some nv → p.E i = false ∧ p.I i = none ∧ p.D i = .v .undef ∧ ∀ j, j < p.h → j ≠ i → ∀ d, dstOf ops i = some d → dstOf ops j ≠ some d
  ins : ∀ j i, p.I j = some i → p.E j = false ∧ p.N j = none ∧ p.D j = .v .undef ∧ (p.N i).isSome = true ∧ p.anc j i = true
  congr : ∀ i S S', (∀ j, p.I j = some i → S j = S' j) → p.cont i S = p.cont i S'
def Closed (ops : Array Oper) (lis : Nat → Bool) : Prop := ∀ i o, ops[i]? = some o → lis i = true → ∀ e ∈ o.after, Region.binds .any e = true → lis e.on = true
theorem anc_lis {p : Plan} (hp : PlanOk ops p) {lis : Nat → Bool} (hc : Closed ops lis) : ∀ i j, i < ops.size → lis i = true → p.anc i j = true → lis j = true := by
  intro i
  induction i using Nat.strongRecOn with
  | _ i ih =>
    intro j hi hl ha
    obtain ⟨o, ho, e, he, hb, h⟩ := hp.anc i j hi ha
    have h1 := hc i o ho hl e he hb
    have h2 := hp.after i o ho e he hb
    rcases h with h | h
    · rw [h]; exact h1
    · exact ih e.on h2 j (by omega) h1 h
theorem anc_ready {p : Plan} (hp : PlanOk ops p) {lis : Nat → Bool} (hc : Closed ops lis) {i : Nat} {o : Oper} (ho : ops[i]? = some o) (hr : ∀ e ∈ o.after, Region.binds .any e = true → lis e.on = true) {j : Nat} (ha : p.anc i j = true) : lis j = true := by
  have hi : i < ops.size := (Array.getElem?_eq_some_iff.1 ho).1
  obtain ⟨o', ho', e, he, hb, h⟩ := hp.anc i j hi ha
  obtain rfl : o' = o := Option.some.inj (ho'.symm.trans ho)
  have h2 := hp.after i o' ho e he hb
  rcases h with h | h
  · rw [h]; exact hr e he hb
  · exact anc_lis hp hc e.on j (by omega) (hr e he hb) h
/-- Is an operation wanted, by its guard? -/
def guardIs (ops : Array Oper) (st : St) (o : Oper) (b : Bool) : Prop := match o.guard with
  | none => b = true
  | some (j, want) => (∃ c, ayielded ops st j = some (.v (.bool c)) ∧ b = (c == want)) ∨ (ayielded ops st j = some (.v (.tup [])) ∧ b = false)
theorem guardIs_ok {σ : Nat → Pl} {lam : Nat → Nat} {st : St} {w : World} {a : Act} (hr : Rel G σ lam st w a) {o : Oper} {b : Bool} (h : guardIs ops st o b) : Region.wanted o (yielded ops a.tmps) = b := by
  unfold guardIs at h
  unfold Region.wanted
  split at h
  · rename_i hg; rw [hg]; exact h.symm
  · rename_i j want hg
    rw [hg]
    rcases h with ⟨c, hc, rfl⟩ | ⟨hc, rfl⟩
    · simp only [yielded_bool hr hc]
      cases c <;> cases want <;> rfl
    · simp only [yielded_skip hr hc]
      cases want <;> rfl
theorem guardIs_congr {st st' : St} {o : Oper} {b : Bool} (h : guardIs ops st o b) (he : ∀ t ∈ o.looksAt ops, st'.env[t]? = st.env[t]?) : guardIs ops st' o b := by
  unfold guardIs at *
  split at h
  · rename_i hg; exact h
  · rename_i j want hg
    have : ayielded ops st' j = ayielded ops st j := by
      unfold ayielded
      cases hd : (ops[j]?).bind (·.dst) with
      | none => rfl
      | some d =>
        simp only [Option.map_some, St.ev]
        rw [he d (by simp [Oper.looksAt, hg, hd])]
    rw [this]
    exact h
/-- The slots that are known when an operation comes up. -/
def Plan.env (ops : Array Oper) (p : Plan) (e0 : List TVal) (i : Nat) : List TVal := envN ops p.D e0 (fun j => decide (j < i)) ops.size
def Plan.kmin (ops : Array Oper) (p : Plan) (i : Nat) : Nat := cnt (fun j => p.anc i j && p.E j) ops.size
def Plan.kmax (ops : Array Oper) (p : Plan) (i : Nat) : Nat := cnt (fun j => (!(j == i) && !(p.anc j i)) && (p.E j && !(p.pan == some j))) ops.size
def Plan.ord (ops : Array Oper) (p : Plan) (i : Nat) : Nat := cnt (fun j => decide (j < i) && p.E j) ops.size
/-- Shown over some memory. -/
def AOm (P : Program) (G : Nat → Option (List AVal)) (o : Oper) (t : TVal) (m : Loc × AHeap) (me : List TVal) (m0 : Loc × AHeap) : Prop :=
  AO P G o (fun t' s => t' = t ∧ s.loc = m.1 ∧ s.heap = m.2) (fun _ _ => False) ⟨me, m0.1, m0.2⟩
/-- What is to be shown of one operation. -/
inductive Plan.Sem (P : Program) (G : Nat → Option (List AVal)) (ops : Array Oper) (p : Plan) (e0 : List TVal) (pv : AVal) (Mp : Loc × AHeap) (i : Nat) (o : Oper) : Prop where
  | skip (hg : guardIs ops ⟨p.env ops e0 i, [], { next := 0, get := fun _ => none }⟩ o false) (hE : p.E i = false) (hN : p.N i = none) (hI : p.I i = none) (hD : p.D i = .v (.tup []))
  | val (hg : guardIs ops ⟨p.env ops e0 i, [], { next := 0, get := fun _ => none }⟩ o true) (hE : p.E i = false) (hN : p.N i = none) (hI : p.I i = none)
      (h : ∀ k, p.kmin ops i ≤ k → k ≤ p.kmax ops i → AOm P G o (p.D i) (p.M k) (mask (o.looksAt ops) (p.env ops e0 i)) (p.M k))
  | eff (hg : guardIs ops ⟨p.env ops e0 i, [], { next := 0, get := fun _ => none }⟩ o true) (hE : p.E i = true) (hp : p.pan ≠ some i) (hN : p.N i = none) (hI : p.I i = none)
      (h : AOm P G o (p.D i) (p.M (p.ord ops i + 1)) (mask (o.looksAt ops) (p.env ops e0 i)) (p.M (p.ord ops i)))
  | pan (hg : guardIs ops ⟨p.env ops e0 i, [], { next := 0, get := fun _ => none }⟩ o true) (hp : p.pan = some i)
      (h : AO P G o (fun _ _ => False) (fun v s => v = pv ∧ s.loc = Mp.1 ∧ s.heap = Mp.2) ⟨mask (o.looksAt ops) (p.env ops e0 i), (p.M (p.ord ops i)).1, (p.M (p.ord ops i)).2⟩)
  | new (nv : NV) (hg : guardIs ops ⟨p.env ops e0 i, [], { next := 0, get := fun _ => none }⟩ o true) (hN : p.N i = some nv)
      (h : ∀ k, p.kmin ops i ≤ k → k ≤ p.kmax ops i → ∀ S, (∀ j, p.I j = some i → S j = false) → NO P G o nv (p.cont i S) ⟨mask (o.looksAt ops) (p.env ops e0 i), (p.M k).1, (p.M k).2⟩)
  | ins (m : Nat) (nv : NV) (hg : guardIs ops ⟨p.env ops e0 i, [], { next := 0, get := fun _ => none }⟩ o true) (hI : p.I i = some m) (hN : p.N m = some nv)
      (h : ∀ k, p.kmin ops i ≤ k → k ≤ p.kmax ops i → ∀ S, S i = false → InsO P G o (dstOf ops m) nv (p.cont m S) (p.cont m (fun j => S j || j == i)) ⟨mask (o.looksAt ops) (p.env ops e0 i), (p.M k).1, (p.M k).2⟩)
theorem St.forgetAll {σ : Nat → Pl} {lam : Nat → Nat} {st0 st : St} {w w' : World} {a : Act} {σ' : Nat → Pl} {lam' : Nat → Nat} {x : AExit} {e : Exit} (h : AQ1 G σ lam st0 w x st e a w' σ' lam') : AQ1 G σ lam st0 w x ⟨mask [] st.env, st.loc, st.heap⟩ e a w' σ' lam' :=
  ⟨h.ex, ⟨h.rel.heap, h.rel.loc, h.rel.env.mask [], h.rel.defers⟩, h.agree, h.next, h.len, h.same, h.evo⟩
theorem mask_nil (e : List TVal) : mask [] e = List.replicate e.length (.v .undef) := by
  apply List.ext_getElem?
  intro i
  rw [mask_get, List.getElem?_replicate]
  rcases Nat.lt_or_ge i e.length with h | h
  · rw [List.getElem?_eq_getElem h, if_pos h]; rfl
  · rw [List.getElem?_eq_none h, if_neg (by omega)]; rfl
/-- What is known of the new blocks that are there already, beside the state. -/
structure XI (ops : Array Oper) (p : Plan) (s0 : Nat) (S : Nat → Bool) (σ : Nat → Pl) (lam : Nat → Nat) (st : St) (w : World) (a : Act) (Pf : Nat → Pl) : Prop where
  new : ∀ i nv, p.N i = some nv → S i = true → s0 ≤ (Pf i).g
  lt : ∀ i nv, p.N i = some nv → S i = true → (Pf i).g < w.heap.size
  far : ∀ i nv, p.N i = some nv → S i = true → ¬ FL σ lam st (Pf i).g
  blk : ∀ i nv, p.N i = some nv → S i = true → BlkR σ st.heap.next (Pf i) w (p.cont i S)
  slot : ∀ i nv, p.N i = some nv → S i = true → ∀ d V, dstOf ops i = some d → a.tmps[d]? = some V → nv.is V (Pf i)
  dis : ∀ i j nv nv', p.N i = some nv → p.N j = some nv' → S i = true → S j = true → i ≠ j → (Pf i).g ≠ (Pf j).g
theorem OL_FL {σ : Nat → Pl} {lam : Nat → Nat} {st : St} {g : Nat} (h : OL σ lam st g) : FL σ lam st g := h.imp Own.foot id
theorem XI.step {p : Plan} {s0 : Nat} {S : Nat → Bool} {σ σ' : Nat → Pl} {lam lam' : Nat → Nat} {st st' : St} {w w' : World} {a : Act} {Pf : Nat → Pl} (h : XI ops p s0 S σ lam st w a Pf) (q : AQ1 G σ lam st w .normal st' .normal a w' σ' lam') : XI ops p s0 S σ' lam' st' w' a Pf where
  new := h.new
  lt i nv hn hs := Nat.lt_of_lt_of_le (h.lt i nv hn hs) q.evo.size
  far i nv hn hs hf := by
    rcases q.evo.foot _ hf with h1 | h1
    · exact h.far i nv hn hs h1
    · have := h.lt i nv hn hs; omega
  blk i nv hn hs := (h.blk i nv hn hs).mono q.next q.agree q.evo.size (q.evo.keep _ (h.lt i nv hn hs) fun ho => h.far i nv hn hs (OL_FL ho))
  slot := h.slot
  dis := h.dis
theorem tmps_put {a : Act} {d : Option Tmp} {V : Value} {t : Nat} (h : d ≠ some t) : (a.put d V).tmps[t]? = a.tmps[t]? := by
  cases d with
  | none => rfl
  | some d =>
    show (a.tmps.setIfInBounds d V)[t]? = _
    rw [Array.getElem?_setIfInBounds, if_neg (fun e => h (by rw [e]))]
/-- One more operation has come up, that is no new block's. -/
theorem XI.put {p : Plan} {s0 : Nat} {S : Nat → Bool} {σ : Nat → Pl} {lam : Nat → Nat} {st st' : St} {w : World} {a : Act} {Pf : Nat → Pl} (hp : PlanOk ops p) (h : XI ops p s0 S σ lam st w a Pf) {i : Nat} (hi : i < p.h) (hN : p.N i = none) (hI : p.I i = none) (V : Value)
    (hl : st'.loc = st.loc) (hh : st'.heap = st.heap) : XI ops p s0 (fun j => S j || j == i) σ lam st' w (a.put (dstOf ops i) V) Pf := by
  have old : ∀ j nv, p.N j = some nv → (S j || j == i) = true → S j = true ∧ j ≠ i := fun j nv hn hs => by
    have hne : j ≠ i := fun e => by subst e; rw [hN] at hn; cases hn
    have : (j == i) = false := by simpa using hne
    rw [this, Bool.or_false] at hs
    exact ⟨hs, hne⟩
  refine ⟨fun j nv hn hs => h.new j nv hn (old j nv hn hs).1, fun j nv hn hs => h.lt j nv hn (old j nv hn hs).1, fun j nv hn hs => ?_, fun j nv hn hs => ?_, fun j nv hn hs d V' hd hV => ?_, fun j k nv nv' hn hn' hs hs' => h.dis j k nv nv' hn hn' (old j nv hn hs).1 (old k nv' hn' hs').1⟩
  · have := h.far j nv hn (old j nv hn hs).1
    unfold FL at this ⊢
    rw [hl, hh]
    exact this
  · have := h.blk j nv hn (old j nv hn hs).1
    rw [hh]
    rw [hp.congr j _ S fun k hk => ?_]
    · exact this
    · have : (k == i) = false := by
        simp only [beq_eq_false_iff_ne]
        intro e; subst e; rw [hI] at hk; cases hk
      rw [this, Bool.or_false]
  · have hne := (old j nv hn hs).2
    rw [tmps_put (fun e => (hp.new j nv hn).2.2.2 i hi (fun e => hne e.symm) d hd e)] at hV
    exact h.slot j nv hn (old j nv hn hs).1 d V' hd hV
/-- A block beside the state becomes one of its heap. -/
theorem Rel.adopt {σ : Nat → Pl} {lam : Nat → Nat} {st : St} {w : World} {a : Act} (hr : Rel G σ lam st w a) (nb : ABlk) (p : Pl) (hlt : p.g < w.heap.size) (hfar : ¬ FL σ lam st p.g) (hglob : ∀ g l, G g = some l → p.g ≠ g) (hb : BlkR σ st.heap.next p w nb) :
    Rel G (upd σ st.heap.next p) lam { st with heap := st.heap.alloc nb } w a := by
  have hσ : ∀ b, b < st.heap.next → upd σ st.heap.next p b = σ b := fun b hb => upd_lt _ _ _ hb
  have hget : ∀ (j : Nat) (c : ABlk), (st.heap.alloc nb).get j = some c → (j = st.heap.next ∧ c = nb) ∨ (j < st.heap.next ∧ st.heap.get j = some c) := fun j c h => by
    rw [AHeap.get_alloc] at h
    by_cases hij : j = st.heap.next
    · rw [if_pos hij] at h
      exact .inl ⟨hij, (Option.some.inj h).symm⟩
    · rw [if_neg hij] at h
      exact .inr ⟨hr.heap.lt j c h, h⟩
  have hne : ∀ (j : Nat) (c : ABlk), st.heap.get j = some c → (σ j).g ≠ p.g := fun j c h e => hfar (.inl ⟨j, c, h, e⟩)
  refine ⟨⟨fun j c h => ?_, fun j c h => ?_, fun j k c c' h h' hjk hc => ?_, hr.heap.glob, fun j c g l h hc hg => ?_⟩, ⟨fun j c h => ?_, fun j c h hc hf => ?_, hr.loc.inj, hr.loc.glob, hr.loc.lt⟩, hr.env.mono (Nat.le_succ _) hσ (Nat.le_refl _) (fun _ _ => rfl), hr.defers⟩
  · rcases hget j c h with ⟨rfl, rfl⟩ | ⟨hj, h⟩
    · exact Nat.lt_succ_self _
    · exact Nat.lt_succ_of_lt hj
  · rcases hget j c h with ⟨rfl, rfl⟩ | ⟨hj, h⟩
    · rw [upd_at]; exact hb.mono (Nat.le_succ _) hσ (Nat.le_refl _) rfl
    · rw [hσ j hj]
      exact (hr.heap.blk j c h).mono (Nat.le_succ _) hσ (Nat.le_refl _) rfl
  · rcases hget j c h with ⟨hj, h1⟩ | ⟨hj, h1⟩ <;> rcases hget k c' h' with ⟨hk, h2⟩ | ⟨hk, h2⟩
    · exact absurd (hj.trans hk.symm) hjk
    · rw [hj, upd_at, hσ k hk]
      exact (hne k c' h2).symm
    · rw [hk, upd_at, hσ j hj]
      exact hne j c h1
    · rw [hσ j hj, hσ k hk]
      exact hr.heap.sep j k c c' h1 h2 hjk hc
  · rcases hget j c h with ⟨rfl, rfl⟩ | ⟨hj, h⟩
    · rw [upd_at]; exact hglob g l hg
    · rw [hσ j hj]
      exact hr.heap.globFar j c g l h hc hg
  · exact (hr.loc.blk j c h).mono (Nat.le_succ _) hσ fun _ => rfl
  · obtain ⟨k, c', h4, h5⟩ := hf
    rcases hget k c' h4 with ⟨rfl, rfl⟩ | ⟨hk, h6⟩
    · rw [upd_at] at h5
      exact hfar (.inr ⟨j, c, h, hc, h5.symm⟩)
    · rw [hσ k hk] at h5
      exact hr.loc.far j c h hc ⟨k, c', h6, h5⟩
theorem EnvRel.name {σ : Nat → Pl} {lam : Nat → Nat} {N L : Nat} {env : List TVal} {tmps : Array Value} (h : EnvRel σ lam N L env tmps) (d : Nat) {v : AVal} (hv : ∀ V, tmps[d]? = some V → VR σ N v V) : EnvRel σ lam N L (env.set d (.v v)) tmps := by
  refine ⟨by simp [h.1], fun i t' V' ht' hV' => ?_, fun i k o hi => ?_⟩
  · rw [List.getElem?_set] at ht'
    by_cases hd : d = i
    · subst hd
      rw [if_pos rfl] at ht'
      split at ht' <;> simp at ht'
      subst ht'
      exact hv V' hV'
    · rw [if_neg hd] at ht'
      exact h.2.1 i t' V' ht' hV'
  · rw [List.getElem?_set] at hi
    by_cases hd : d = i
    · subst hd
      rw [if_pos rfl] at hi
      split at hi <;> simp at hi
    · rw [if_neg hd] at hi
      exact h.2.2 i k o hi
/-- The state with a new block laid into it. -/
def Plan.adopt (ops : Array Oper) (p : Plan) (st : St) (i : Nat) : St := match p.N i with
  | some nv => ⟨putE ops st.env i (.v (nv.val st.heap.next)), st.loc, st.heap.alloc (p.cont i (fun j => decide (j < p.h)))⟩
  | none => st
theorem adopt_one {p : Plan} {s0 : Nat} {S : Nat → Bool} {σ0 σ : Nat → Pl} {lam0 lam : Nat → Nat} {st0 st : St} {w0 w : World} {a : Act} {Pf : Nat → Pl} (hp : PlanOk ops p) (hs0 : s0 = w0.heap.size) (hG : ∀ g l, G g = some l → g < s0) (q : AQ1 G σ0 lam0 st0 w0 .normal st .normal a w σ lam) (h : XI ops p s0 S σ lam st w a Pf) {i : Nat} {nv : NV}
    (hN : p.N i = some nv) (hS : S i = true) (hSh : ∀ j, p.I j = some i → S j = decide (j < p.h)) : ∃ σ', AQ1 G σ0 lam0 st0 w0 .normal (p.adopt ops st i) .normal a w σ' lam ∧ XI ops p s0 (fun j => S j && !(j == i && (p.N j).isSome)) σ' lam (p.adopt ops st i) w a Pf := by
  have hc : p.cont i (fun j => decide (j < p.h)) = p.cont i S := hp.congr i _ _ fun j hj => (hSh j hj).symm
  have hblk := h.blk i nv hN hS
  have hnew := h.new i nv hN hS
  have hfar := h.far i nv hN hS
  have hσ : ∀ b, b < st.heap.next → upd σ st.heap.next (Pf i) b = σ b := fun b hb => upd_lt _ _ _ hb
  have hrel := q.rel.adopt (p.cont i S) (Pf i) (h.lt i nv hN hS) hfar (fun g l hg e => by have := hG g l hg; omega) hblk
  have hst : p.adopt ops st i = ⟨putE ops st.env i (.v (nv.val st.heap.next)), st.loc, st.heap.alloc (p.cont i S)⟩ := by
    simp only [Plan.adopt, hN, hc]
  have hfoot : ∀ g, FL (upd σ st.heap.next (Pf i)) lam ⟨putE ops st.env i (.v (nv.val st.heap.next)), st.loc, st.heap.alloc (p.cont i S)⟩ g → FL σ lam st g ∨ g = (Pf i).g := fun g hg => by
    rcases hg with ⟨j, c, hj, e⟩ | hg
    · rw [AHeap.get_alloc] at hj
      by_cases hjn : j = st.heap.next
      · subst hjn; rw [upd_at] at e; exact .inr e.symm
      · rw [if_neg hjn] at hj
        rw [hσ j (q.rel.heap.lt j c hj)] at e
        exact .inl (.inl ⟨j, c, hj, e⟩)
    · exact .inl (.inr hg)
  refine ⟨upd σ st.heap.next (Pf i), ?_, ?_⟩
  · rw [hst]
    refine ⟨.normal, ⟨hrel.heap, hrel.loc, ?_, hrel.defers⟩, fun b hb => (hσ b (Nat.lt_of_lt_of_le hb q.next)).trans (q.agree b hb), Nat.le_trans q.next (Nat.le_succ _), q.len, q.same, ⟨q.evo.os, q.evo.tape, q.evo.output, q.evo.size, q.evo.keep, fun g hg => ?_, fun g hg => ?_⟩⟩
    · unfold putE
      cases hd : (ops[i]?).bind (·.dst) with
      | none => exact hrel.env
      | some d => exact hrel.env.name d fun V hV => NV.rel (h.slot i nv hN hS d V hd hV) _ _
    · have hg' : OL σ lam st g ∨ g = (Pf i).g := by
        rcases hg with ⟨j, c, hj, hr, e⟩ | hg
        · have hj' := hj
          rw [AHeap.get_alloc] at hj'
          by_cases hjn : j = st.heap.next
          · subst hjn; rw [upd_at] at e; exact .inr e.symm
          · rw [if_neg hjn] at hj'
            rw [hσ j (q.rel.heap.lt j c hj')] at e
            exact .inl (.inl ⟨j, c, hj', hr, e⟩)
        · exact .inl (.inr hg)
      rcases hg' with hg | rfl
      · exact q.evo.own g hg
      · exact .inr (by omega)
    · rcases hfoot g hg with hg | rfl
      · exact q.evo.foot g hg
      · exact .inr (by omega)
  · have old : ∀ j nv', p.N j = some nv' → (S j && !(j == i && (p.N j).isSome)) = true → S j = true ∧ j ≠ i := fun j nv' hn hs => by
      simp only [Bool.and_eq_true, Bool.not_eq_true'] at hs
      refine ⟨hs.1, fun e => ?_⟩
      subst e
      have := hs.2
      simp [hn] at this
    rw [hst]
    refine ⟨fun j nv' hn hs => h.new j nv' hn (old j nv' hn hs).1, fun j nv' hn hs => h.lt j nv' hn (old j nv' hn hs).1, fun j nv' hn hs hf => ?_, fun j nv' hn hs => ?_, fun j nv' hn hs => h.slot j nv' hn (old j nv' hn hs).1, fun j k nv' nv'' hn hn' hs hs' => h.dis j k nv' nv'' hn hn' (old j nv' hn hs).1 (old k nv'' hn' hs').1⟩
    · obtain ⟨h1, h2⟩ := old j nv' hn hs
      rcases hfoot _ hf with h3 | h3
      · exact h.far j nv' hn h1 h3
      · exact h.dis j i nv' nv hn hN h1 hS h2 h3
    · obtain ⟨h1, h2⟩ := old j nv' hn hs
      rw [hp.congr j _ S fun k hk => ?_]
      · exact (h.blk j nv' hn h1).mono (Nat.le_succ _) hσ (Nat.le_refl _) rfl
      · have hk2 := (hp.ins k j hk).2.1
        simp [hk2]
theorem adopt_all {p : Plan} {s0 : Nat} {σ0 : Nat → Pl} {lam0 : Nat → Nat} {st0 : St} {w0 : World} {a : Act} {Pf : Nat → Pl} (hp : PlanOk ops p) (hs0 : s0 = w0.heap.size) (hG : ∀ g l, G g = some l → g < s0) {w : World} : ∀ (l : List Nat) {S : Nat → Bool} {σ : Nat → Pl} {lam : Nat → Nat} {st : St}, AQ1 G σ0 lam0 st0 w0 .normal st .normal a w σ lam → XI ops p s0 S σ lam st w a Pf →
    l.Nodup → (∀ i ∈ l, (p.N i).isSome = true → S i = true) → (∀ i j, p.I j = some i → S j = decide (j < p.h)) → ∃ σ', AQ1 G σ0 lam0 st0 w0 .normal (l.foldl (p.adopt ops) st) .normal a w σ' lam
  | [], S, σ, lam, st, q, _, _, _, _ => ⟨σ, q⟩
  | i :: l, S, σ, lam, st, q, h, hnd, hS, hI => by
    rw [List.nodup_cons] at hnd
    cases hN : p.N i with
    | none =>
      have : p.adopt ops st i = st := by simp only [Plan.adopt, hN]
      rw [List.foldl_cons, this]
      exact adopt_all hp hs0 hG l q h hnd.2 (fun j hj => hS j (by simp [hj])) hI
    | some nv =>
      obtain ⟨σ', q', h'⟩ := adopt_one hp hs0 hG q h hN (hS i (by simp) (by simp [hN])) (fun j hj => hI i j hj)
      rw [List.foldl_cons]
      refine adopt_all hp hs0 hG l q' h' hnd.2 (fun j hj hj2 => ?_) (fun k j hj => ?_)
      · have hne : (j == i) = false := by
          simp only [beq_eq_false_iff_ne]
          intro e; subst e; exact hnd.1 hj
        rw [hS j (by simp [hj]) hj2, hne]
        rfl
      · have hk2 := (hp.ins j k hj).2.1
        rw [hI k j hj, hk2]
        simp
/-- The tail: one operation behind the other. -/
theorem wpAny_tail {p : Plan} (hp : PlanOk ops p) {Q : Exit → Act → World → Prop} : ∀ (m t : Nat) (listed : Array Bool) (a : Act) (w : World), listed.size = ops.size → p.h ≤ t → t + m = ops.size → (∀ j, listed.getD j false = decide (j < t)) →
    wpOps P ops Q (List.range' t m) a w → wpAny P .any ops Q m listed a w
  | 0, t, listed, a, w, hsz, ht, hm, hl, h => by
    refine ⟨?_, h⟩
    cases hrd : Region.ready .any ops listed with
    | nil => rfl
    | cons i l =>
      have hi : i ∈ Region.ready .any ops listed := by rw [hrd]; simp
      obtain ⟨hun, o, ho, _⟩ := mem_ready.1 hi
      have hlt : i < ops.size := (Array.getElem?_eq_some_iff.1 ho).1
      have := hl i
      rw [getD_both hun] at this
      have h2 : ¬ (i < t) := by simpa using this.symm
      omega
  | m + 1, t, listed, a, w, hsz, ht, hm, hl, h => by
    have htl : t < ops.size := by omega
    have hot : ops[t]? = some ops[t] := by simp [htl]
    have hrt : t ∈ Region.ready .any ops listed := by
      refine mem_ready.2 ⟨getD_in (by rw [hsz]; exact htl) (by rw [hl t]; simp), ops[t], hot, fun e he hb => ?_⟩
      rw [hl e.on]
      simpa using hp.after t _ hot e he hb
    refine ⟨fun h0 => (by rw [h0] at hrt; cases hrt), fun i hi => ?_⟩
    obtain ⟨hun, o, ho, hall⟩ := mem_ready.1 hi
    have hlt : i < ops.size := (Array.getElem?_eq_some_iff.1 ho).1
    have h1 := hl i
    rw [getD_both hun] at h1
    have hge : t ≤ i := by have : ¬ (i < t) := by simpa using h1.symm
                           omega
    have hit : i = t := by
      rcases Nat.lt_or_ge t i with h2 | h2
      · have h3 := hp.tail i t (by omega) hlt h2
        obtain ⟨o', ho', e, he, hb, h4⟩ := hp.anc i t hlt h3
        obtain rfl : o' = o := Option.some.inj (ho'.symm.trans ho)
        have h5 := hall e he hb
        rw [hl e.on] at h5
        have h6 : e.on < t := by simpa using h5
        rcases h4 with h4 | h4
        · omega
        · have : ∀ n, n < ops.size → ∀ m, p.anc n m = true → m < n := by
            intro n
            induction n using Nat.strongRecOn with
            | _ n ih =>
              intro hn m hm
              obtain ⟨o2, ho2, e2, he2, hb2, h7⟩ := hp.anc n m hn hm
              have h8 := hp.after n o2 ho2 e2 he2 hb2
              rcases h7 with h7 | h7
              · omega
              · have := ih e2.on h8 (by omega) m h7; omega
          have := this e.on (by omega) t h4
          omega
      · omega
    subst hit
    rw [List.range'_succ, wpOps_cons] at h
    refine wpOp_mono (fun a' w' h' => wpAny_tail hp m (i + 1) _ a' w' (by simpa using hsz) (by omega) (by omega) (fun j => ?_) h') h
    by_cases hij : i = j
    · subst hij
      have : i < listed.size := by rw [hsz]; exact hlt
      simp [this]
    · rw [getD_set_ne false hij, hl j]
      by_cases hj : j < i
      · simp [hj]; omega
      · have : ¬ (j < i + 1) := by omega
        simp [hj, this]
theorem AQ1.beside {σ0 σ : Nat → Pl} {lam0 lam : Nat → Nat} {st0 st : St} {w0 w : World} {a : Act} (q : AQ1 G σ0 lam0 st0 w0 .normal st .normal a w σ lam) (hG : ∀ g l, G g = some l → g < w0.heap.size) {g : Nat} (hg : w0.heap.size ≤ g) (hf : ¬ FL σ lam st g) (obj : Obj) :
    AQ1 G σ0 lam0 st0 w0 .normal st .normal a (setBlk w g obj) σ lam := by
  have hr := q.rel
  refine ⟨.normal, ⟨hr.heap.world (by simp [setBlk_size]) (fun g' hg' => setBlk_ne _ _ _ _ fun e => hf (.inl (e ▸ hg'))) (fun g' l hg' => setBlk_ne _ _ _ _ fun e => by have := hG g' l hg'; omega),
    hr.loc.world (by simp [setBlk_size]) (fun i b hb hl => setBlk_ne _ _ _ _ fun e => hf (.inr ⟨i, b, hb, hl, e⟩)), hr.env, hr.defers⟩, q.agree, q.next, q.len, q.same,
    ⟨q.evo.os, q.evo.tape, q.evo.output, by rw [setBlk_size]; exact q.evo.size, fun g' hg' ho => ?_, q.evo.own, q.evo.foot⟩⟩
  rw [setBlk_ne _ _ _ _ (by omega)]
  exact q.evo.keep g' hg' ho
theorem AQ1.allocBeside {σ : Nat → Pl} {lam : Nat → Nat} {st : St} {w : World} {a : Act} (hr : Rel G σ lam st w a) (obj : Obj) : AQ1 G σ lam st w .normal st .normal a (w.alloc obj) σ lam :=
  ⟨.normal, ⟨hr.heap.alloc obj, hr.loc.world (by simp) (fun i b hb hl => heap_alloc_old w obj (hr.loc.lt i b hb hl)), hr.env, hr.defers⟩, fun _ _ => rfl, Nat.le_refl _, Nat.le_refl _, fun _ _ => rfl, ⟨rfl, rfl, rfl, by simp, fun g hg _ => heap_alloc_old w obj hg, fun _ h => .inl h, fun _ h => .inl h⟩⟩
/-- **A REGION THAT DRAWS ITS ORDER**: whatever order is drawn, it comes to the same. -/
theorem AW.drawn {id : Nat} {p : Plan} {loc : Loc} {heap : AHeap} {K : AExit → St → Prop} {pv : AVal} {Mp : Loc × AHeap} (hm : P.follows .mixedOrders = true) (hp : PlanOk ops p) (h0 : p.M 0 = (loc, heap))
    (sem : ∀ i o, i < p.h → ops[i]? = some o → (∀ r, p.pan = some r → p.anc i r = false) → p.Sem P G ops e0 pv Mp i o)
    (hK : match p.pan with
      | none => AOps P G ops K (List.range' p.h (ops.size - p.h)) ((List.range p.h).foldl (p.adopt ops) ⟨envN ops p.D e0 (fun j => decide (j < p.h)) ops.size, (p.M (cnt p.E ops.size)).1, (p.M (cnt p.E ops.size)).2⟩)
      | some _ => K (.panic pv) ⟨List.replicate e0.length (.v .undef), Mp.1, Mp.2⟩) : AW P G (.region id ops true) K ⟨e0, loc, heap⟩ := fun σ lam w a hr => by
  refine wp_region_any hm ?_
  have hG : ∀ g l, G g = some l → g < w.heap.size := fun g l h => (hr.heap.glob g l h).1
  let stL : Array Bool → St := fun listed => ⟨envN ops p.D e0 (fun j => listed.getD j false) ops.size, (p.M (cnt (fun j => listed.getD j false && p.E j) ops.size)).1, (p.M (cnt (fun j => listed.getD j false && p.E j) ops.size)).2⟩
  have main : ∀ (fuel : Nat) (listed : Array Bool) (a' : Act) (w' : World) (σ' : Nat → Pl) (lam' : Nat → Nat) (Pf : Nat → Pl), listed.size = ops.size → Closed ops (fun j => listed.getD j false) → (∀ r, p.pan = some r → listed.getD r false = false) →
      (∀ j, p.h ≤ j → listed.getD j false = false) → cnt (fun j => !listed.getD j false) ops.size = fuel → AQ1 G σ lam ⟨e0, loc, heap⟩ w .normal (stL listed) .normal a' w' σ' lam' →
      XI ops p w.heap.size (fun j => listed.getD j false) σ' lam' (stL listed) w' a' Pf → wpAny P .any ops (AQ G K σ lam ⟨e0, loc, heap⟩ w) fuel listed a' w' := by
    -- once all of the head has come up
    have fin : ∀ (listed : Array Bool) (a' : Act) (w' : World) (σ' : Nat → Pl) (lam' : Nat → Nat) (Pf : Nat → Pl), listed.size = ops.size → (∀ r, p.pan = some r → listed.getD r false = false) →
        (∀ j, p.h ≤ j → listed.getD j false = false) → (∀ j, j < p.h → listed.getD j false = true) → AQ1 G σ lam ⟨e0, loc, heap⟩ w .normal (stL listed) .normal a' w' σ' lam' →
        XI ops p w.heap.size (fun j => listed.getD j false) σ' lam' (stL listed) w' a' Pf → wpAny P .any ops (AQ G K σ lam ⟨e0, loc, heap⟩ w) (cnt (fun j => !listed.getD j false) ops.size) listed a' w' := by
      intro listed a' w' σ' lam' Pf hsz hpan htl hall q hx
      have hl : ∀ j, listed.getD j false = decide (j < p.h) := fun j => by
        by_cases hj : j < p.h
        · rw [hall j hj]; simp [hj]
        · rw [htl j (by omega)]; simp [hj]
      cases hpn : p.pan with
      | some r =>
        have h1 := hpan r hpn
        have h2 := (hp.pan r hpn).2
        have h3 : r < p.h := by
          rcases Nat.lt_or_ge r p.h with h | h
          · exact h
          · rw [(hp.tailE r h).1] at h2; cases h2
        rw [hall r h3] at h1
        cases h1
      | none =>
        rw [hpn] at hK
        have e1 : stL listed = ⟨envN ops p.D e0 (fun j => decide (j < p.h)) ops.size, (p.M (cnt p.E ops.size)).1, (p.M (cnt p.E ops.size)).2⟩ := by
          simp only [stL]
          rw [envN_congr (lis' := fun j => decide (j < p.h)) fun j hj => hl j, cnt_congr (q := p.E) fun j hj => by
            rw [hl j]
            by_cases hj : j < p.h
            · simp [hj]
            · rw [(hp.tailE j (by omega)).1]; simp]
        rw [e1] at q hx
        obtain ⟨σ2, q2⟩ := adopt_all hp rfl hG (List.range p.h) q hx List.nodup_range (fun i hi _ => hall i (List.mem_range.1 hi)) (fun i j _ => hl j)
        have hc : cnt (fun j => !listed.getD j false) ops.size = ops.size - p.h := by
          have : ∀ n, p.h ≤ n → cnt (fun j => !listed.getD j false) n = n - p.h := by
            intro n
            induction n with
            | zero => intro h; simp [cnt]
            | succ n ih =>
              intro h
              simp only [cnt, hl]
              by_cases hn : n < p.h
              · have hz : cnt (fun j => !decide (j < p.h)) n = cnt (fun _ => false) n := cnt_congr fun j hj => by simp; omega
                have hz2 : ∀ m, cnt (fun _ => false) m = 0 := by
                  intro m
                  induction m with
                  | zero => rfl
                  | succ m ih => simp only [cnt, ih]; rfl
                rw [hz, hz2]
                simp [hn]
                omega
              · have := ih (by omega)
                simp only [hl] at this
                rw [this]
                simp [hn]
                omega
          exact this _ hp.h
        rw [hc]
        refine wpAny_tail hp _ _ _ _ _ hsz (Nat.le_refl _) (by have := hp.h; omega) hl ?_
        exact hK σ2 _ w' a' q2.rel _ fun e a2 w2 h2 => AQ.trans q2 h2
    intro fuel
    induction fuel with
    | zero =>
      intro listed a' w' σ' lam' Pf hsz hc hpan htl hcnt q hx
      have hall : ∀ j, j < ops.size → listed.getD j false = true := fun j hj => by simpa using cnt_zero hcnt j hj
      have := fin listed a' w' σ' lam' Pf hsz hpan htl (fun j hj => hall j (Nat.lt_of_lt_of_le hj hp.h)) q hx
      rw [hcnt] at this
      exact this
    | succ fuel ih =>
      intro listed a' w' σ' lam' Pf hsz hc hpan htl hcnt q hx
      by_cases hdone : ∀ j, j < p.h → listed.getD j false = true
      · have := fin listed a' w' σ' lam' Pf hsz hpan htl hdone q hx
        rw [hcnt] at this
        exact this
      have some_ready : Region.ready .any ops listed ≠ [] := by
        obtain ⟨j, hj, hjl', hlow'⟩ := cnt_first (p := fun j => !listed.getD j false) (n := ops.size) (by rw [hcnt]; omega)
        have hjl : listed.getD j false = false := by simpa using hjl'
        have hlow : ∀ i, i < j → listed.getD i false = true := fun i hi => by simpa using hlow' i hi
        have hjr : j ∈ Region.ready .any ops listed := by
          refine mem_ready.2 ⟨getD_in (by rw [hsz]; exact hj) hjl, ops[j], by simp [hj], fun e he hb => ?_⟩
          exact hlow e.on (hp.after j ops[j] (by simp [hj]) e he hb)
        intro h
        rw [h] at hjr
        cases hjr
      refine ⟨fun h => absurd h some_ready, fun i hi => ?_⟩
      obtain ⟨hun, o, ho, hrdy⟩ := mem_ready.1 hi
      have hun' := getD_both hun
      have hin : i < ops.size := (Array.getElem?_eq_some_iff.1 ho).1
      have hanc : ∀ j, p.anc i j = true → listed.getD j false = true := fun j h => anc_ready (lis := fun j => listed.getD j false) hp hc ho hrdy h
      have hih : i < p.h := by
        rcases Nat.lt_or_ge i p.h with h | h
        · exact h
        · exact absurd (fun j hj => hanc j (hp.tail i j h hin (by omega))) hdone
      have hdesc : ∀ j, j < ops.size → listed.getD j false = true → p.anc j i = false := fun j hj hl => by
        cases h : p.anc j i with
        | false => rfl
        | true =>
          have := anc_lis (lis := fun j => listed.getD j false) hp hc j i hj hl h
          simp only [hun'] at this
          cases this
      have hnp : ∀ r, p.pan = some r → p.anc i r = false := fun r hr => by
        cases h : p.anc i r with
        | false => rfl
        | true => have := hanc r h; rw [hpan r hr] at this; cases this
      have hset : ∀ j, (listed.setIfInBounds i true).getD j false = (listed.getD j false || j == i) := fun j => by
        by_cases hij : i = j
        · subst hij
          have : i < listed.size := by rw [hsz]; exact hin
          simp [this]
        · rw [getD_set_ne false hij]
          have : (j == i) = false := by simpa using fun h => hij h.symm
          simp [this]
      have hsetf : (fun j => (listed.setIfInBounds i true).getD j false) = fun j => listed.getD j false || j == i := funext hset
      have hdst : dstOf ops i = o.dst := by simp [dstOf, ho]
      have hslot : ∀ t ∈ o.looksAt ops, (envN ops p.D e0 (fun j => listed.getD j false) ops.size)[t]? = (p.env ops e0 i)[t]? := fun t ht => by
        refine envN_slot t fun j hj hd => ?_
        have hoj : ops[j]? = some ops[j] := by simp [hj]
        rw [hoj] at hd
        have hs := hp.slots i o t ho (.inl ht) j ops[j] hoj (by simpa using hd)
        rcases Nat.lt_trichotomy j i with h | h | h
        · rw [hanc j (hs.1 h)]; simp [h]
        · subst h; rw [hun']; simp
        · have := hs.2 h
          cases hl : listed.getD j false with
          | false => simp; omega
          | true => rw [hdesc j hj hl] at this; cases this
      have hmask : mask (o.looksAt ops) (envN ops p.D e0 (fun j => listed.getD j false) ops.size) = mask (o.looksAt ops) (p.env ops e0 i) :=
        mask_congr (by rw [envN_length, Plan.env, envN_length]) hslot
      have henv : envN ops p.D e0 (fun j => (listed.setIfInBounds i true).getD j false) ops.size = putE ops (envN ops p.D e0 (fun j => listed.getD j false) ops.size) i (p.D i) := by
        rw [hsetf]
        refine envN_add hun' hin fun j d h1 h2 hl hd hd' => ?_
        have hoj : ops[j]? = some ops[j] := by simp [h2]
        rw [hoj] at hd
        rw [ho] at hd'
        have := (hp.slots i o d ho (.inr (by simpa using hd')) j ops[j] hoj (by simpa using hd)).2 h1
        rw [hdesc j h2 hl] at this
        cases this
      have hputE : ∀ (e : List TVal) (l : Loc) (H : AHeap) (t : TVal), (St.mk e l H).put o.dst t = ⟨putE ops e i t, l, H⟩ := fun e l H t => by
        simp only [putE, ho, Option.bind_some]
        cases o.dst <;> rfl
      have hE0 : p.E i = false → cnt (fun j => (listed.setIfInBounds i true).getD j false && p.E j) ops.size = cnt (fun j => listed.getD j false && p.E j) ops.size := fun hE =>
        cnt_congr fun j hj => by
          rw [hset j]
          by_cases hij : j = i
          · subst hij; simp [hE]
          · have : (j == i) = false := by simpa using hij
            simp [this]
      have hE1 : p.E i = true → cnt (fun j => (listed.setIfInBounds i true).getD j false && p.E j) ops.size = cnt (fun j => listed.getD j false && p.E j) ops.size + 1 := fun hE => by
        rw [← cnt_add (p := fun j => listed.getD j false && p.E j) (i := i) (by simp only [hun']; rfl) hin]
        refine cnt_congr fun j hj => ?_
        rw [hset j]
        by_cases hij : j = i
        · subst hij; simp [hE]
        · have : (j == i) = false := by simpa using hij
          simp [this]
      have hord : p.E i = true → cnt (fun j => listed.getD j false && p.E j) ops.size = p.ord ops i := fun hE =>
        cnt_congr fun j hj => by
          cases hEj : p.E j with
          | false => simp
          | true =>
            simp only [Bool.and_true]
            rcases Nat.lt_trichotomy j i with h | h | h
            · rw [hanc j (hp.chain j i h hin hEj hE)]; simp [h]
            · subst h; rw [hun']; simp
            · have := hp.chain i j h hj hE hEj
              cases hl : listed.getD j false with
              | false => simp; omega
              | true => rw [hdesc j hj hl] at this; cases this
      have hk1 : p.kmin ops i ≤ cnt (fun j => listed.getD j false && p.E j) ops.size := cnt_le fun j hj h => by
        simp only [Bool.and_eq_true] at h ⊢
        exact ⟨hanc j h.1, h.2⟩
      have hk2 : cnt (fun j => listed.getD j false && p.E j) ops.size ≤ p.kmax ops i := cnt_le fun j hj h => by
        simp only [Bool.and_eq_true] at h ⊢
        refine ⟨⟨?_, ?_⟩, h.2, ?_⟩
        · cases hji : (j == i) with
          | false => rfl
          | true =>
            have : j = i := by simpa using hji
            subst this; rw [hun'] at h; cases h.1
        · rw [hdesc j hj h.1]; rfl
        · cases hpj : (p.pan == some j) with
          | false => rfl
          | true =>
            have : p.pan = some j := by simpa using hpj
            rw [hpan j this] at h; cases h.1
      have hcnt' : cnt (fun j => !(listed.setIfInBounds i true).getD j false) ops.size = fuel := by
        have h1 := cnt_add (p := fun j => !(listed.setIfInBounds i true).getD j false) (i := i) (by simp only [hset i]; simp) hin
        have h2 : cnt (fun j => (!(listed.setIfInBounds i true).getD j false) || j == i) ops.size = cnt (fun j => !listed.getD j false) ops.size := cnt_congr fun j hj => by
          rw [hset j]
          by_cases hij : j = i
          · subst hij; simp [hun']
          · have : (j == i) = false := by simpa using hij
            simp [this]
        rw [h2, hcnt] at h1
        omega
      have hc' : Closed ops (fun j => (listed.setIfInBounds i true).getD j false) := fun j oj hoj hl e he hb => by
        simp only [hset] at hl ⊢
        by_cases hij : j = i
        · subst hij
          obtain rfl : oj = o := Option.some.inj (hoj.symm.trans ho)
          rw [hrdy e he hb]; rfl
        · have hf : (j == i) = false := by simpa using hij
          rw [hf, Bool.or_false] at hl
          have h9 : listed.getD e.on false = true := hc j oj hoj hl e he hb
          rw [h9]; rfl
      have goOn : ∀ {a2 : Act} {w2 : World} {σ2 : Nat → Pl} {lam2 : Nat → Nat} {Pf2 : Nat → Pl}, p.pan ≠ some i → AQ1 G σ lam ⟨e0, loc, heap⟩ w .normal (stL (listed.setIfInBounds i true)) .normal a2 w2 σ2 lam2 →
          XI ops p w.heap.size (fun j => listed.getD j false || j == i) σ2 lam2 (stL (listed.setIfInBounds i true)) w2 a2 Pf2 →
          wpAny P .any ops (AQ G K σ lam ⟨e0, loc, heap⟩ w) fuel (listed.setIfInBounds i true) a2 w2 := fun hpi q2 hx2 =>
        ih _ _ _ _ _ _ (by simpa using hsz) hc' (fun r hr => by
          rw [hset r, hpan r hr]
          have : (r == i) = false := by
            simp only [beq_eq_false_iff_ne]
            intro e; subst e; exact hpi hr
          simp [this]) (fun j hj => by
          rw [hset j, htl j hj]
          have : (j == i) = false := by
            simp only [beq_eq_false_iff_ne]
            omega
          simp [this]) hcnt' q2 (by rw [hsetf]; exact hx2)
      have hrel := q.rel
      have hg : ∀ b, guardIs ops ⟨p.env ops e0 i, [], { next := 0, get := fun _ => none }⟩ o b → Region.wanted o (yielded ops a'.tmps) = b := fun b h => guardIs_ok hrel (guardIs_congr h hslot)
      have noPan : p.E i = false → p.pan ≠ some i := fun hE h => by have := (hp.pan i h).2; rw [hE] at this; cases this
      have hs := sem i o hih ho hnp
      unfold wpOp
      simp only [ho]
      cases hs with
      | skip hgf hE hN hI hD =>
        rw [hg _ hgf]
        simp only [Bool.false_eq_true, if_false]
        have hor : OR G σ' lam' (stL listed) w' a' (.v (.tup [])) (stL listed) undef w' σ' lam' := ⟨.refl .normal hrel, .tup _ _ rfl (by simp), fun k o h => by cases h⟩
        have q2 := q.trans (hor.put o.dst)
        have hx2 := XI.put hp hx hih hN hI undef (st' := stL (listed.setIfInBounds i true)) (by simp only [stL, hE0 hE]) (by simp only [stL, hE0 hE])
        rw [hdst] at hx2
        refine goOn (σ2 := σ') (lam2 := lam') (noPan hE) ?_ hx2
        simp only [stL, hputE] at q2
        simp only [stL, henv, hE0 hE, hD]
        exact q2
      | val hgt hE hN hI hao =>
        rw [hg _ hgt]
        simp only [if_true]
        refine .inl ?_
        have hk := hao _ hk1 hk2
        rw [← hmask] at hk
        have hk3 : AO P G o (fun t s => t = p.D i ∧ s = stL listed) (fun _ _ => False) (stL listed) := AO.unmask fun σ lam w a hr next Q hn hx => hk σ lam w a hr next Q (fun t s V w' σ' lam' h ho => hn t s V w' σ' lam' ⟨h.1, by rw [h.2.1, h.2.2]⟩ ho) (fun v s V w' σ' lam' h _ _ => h.elim)
        refine hk3 σ' lam' w' a' hrel _ _ (fun t s V w2 σ2 lam2 h hor => ?_) (fun v s V w2 σ2 lam2 h _ _ => h.elim)
        obtain ⟨rfl, rfl⟩ := h
        have q2 := q.trans (hor.put o.dst)
        have hx2 := XI.put hp (hx.step hor.q) hih hN hI V (st' := stL (listed.setIfInBounds i true)) (by simp only [stL, hE0 hE]) (by simp only [stL, hE0 hE])
        rw [hdst] at hx2
        refine goOn (σ2 := σ2) (lam2 := lam2) (noPan hE) ?_ hx2
        simp only [stL, hputE] at q2
        simp only [stL, henv, hE0 hE]
        exact q2
      | eff hgt hE hpi hN hI hao =>
        rw [hg _ hgt]
        simp only [if_true]
        refine .inl ?_
        rw [← hmask, ← hord hE] at hao
        have hk3 : AO P G o (fun t s => t = p.D i ∧ s = ⟨(stL listed).env, (p.M (cnt (fun j => listed.getD j false && p.E j) ops.size + 1)).1, (p.M (cnt (fun j => listed.getD j false && p.E j) ops.size + 1)).2⟩) (fun _ _ => False) (stL listed) := AO.unmask fun σ lam w a hr next Q hn hx => hao σ lam w a hr next Q (fun t s V w' σ' lam' h ho => hn t s V w' σ' lam' ⟨h.1, by rw [h.2.1, h.2.2]⟩ ho) (fun v s V w' σ' lam' h _ _ => h.elim)
        refine hk3 σ' lam' w' a' hrel _ _ (fun t s V w2 σ2 lam2 h hor => ?_) (fun v s V w2 σ2 lam2 h _ _ => h.elim)
        obtain ⟨rfl, rfl⟩ := h
        have q2 := q.trans (hor.put o.dst)
        have hx2 := XI.put hp (hx.step hor.q) hih hN hI V (st' := stL (listed.setIfInBounds i true)) (by simp only [stL, hE1 hE]) (by simp only [stL, hE1 hE])
        rw [hdst] at hx2
        refine goOn (σ2 := σ2) (lam2 := lam2) hpi ?_ hx2
        simp only [stL, hputE] at q2
        simp only [stL, henv, hE1 hE]
        exact q2
      | pan hgt hpi hao =>
        rw [hg _ hgt]
        simp only [if_true]
        refine .inl ?_
        have hE := (hp.pan i hpi).2
        rw [← hmask, ← hord hE] at hao
        rw [hpi] at hK
        have hk3 : AO P G o (fun _ _ => False) (fun v s => v = pv ∧ s = ⟨(stL listed).env, Mp.1, Mp.2⟩) (stL listed) := AO.unmask fun σ lam w a hr next Q hn hx => hao σ lam w a hr next Q (fun t s V w' σ' lam' h _ => h.elim) (fun v s V w' σ' lam' h hv q => hx v s V w' σ' lam' ⟨h.1, by rw [h.2.1, h.2.2]⟩ hv q)
        refine hk3 σ' lam' w' a' hrel _ _ (fun t s V w2 σ2 lam2 h _ => h.elim) (fun v s V w2 σ2 lam2 h hv q3 => ?_)
        obtain ⟨rfl, rfl⟩ := h
        have q2 := St.forgetAll (q.trans q3)
        have e1 : mask [] (stL listed).env = List.replicate e0.length (.v .undef) := by rw [mask_nil]; simp only [stL, envN_length]
        simp only [e1] at q2
        exact ⟨σ2, lam2, .panic v, _, hK, ⟨.panic v V hv, q2.rel, q2.agree, q2.next, q2.len, q2.same, q2.evo⟩⟩
      | new nv hgt hN hao =>
        rw [hg _ hgt]
        simp only [if_true]
        refine .inl ?_
        obtain ⟨hE, hI, hD, hnd⟩ := hp.new i nv hN
        have hno := hao _ hk1 hk2 (fun j => listed.getD j false) (fun j hj => by
          cases hl : listed.getD j false with
          | false => rfl
          | true =>
            have h1 := (hp.ins j i hj).2.2.2.2
            rcases Nat.lt_or_ge j ops.size with h2 | h2
            · rw [hdesc j h2 hl] at h1; cases h1
            · have : j < listed.size := by
                rcases Nat.lt_or_ge j listed.size with h3 | h3
                · exact h3
                · simp [Array.getElem?_eq_none h3] at hl
              omega)
        rw [← hmask] at hno
        obtain ⟨obj, V, cap, h1, h2, h3⟩ := hno σ' lam' w' a' ⟨hrel.heap, hrel.loc, hrel.env.mask _, hrel.defers⟩
        unfold Oper.wp
        rw [h1]
        show wpAny _ _ _ _ _ _ (a'.put o.dst V) (w'.alloc obj)
        have q3 := AQ1.allocBeside hrel obj
        have hor : OR G σ' lam' (stL listed) w' a' (.v .undef) (stL listed) V (w'.alloc obj) σ' lam' := ⟨q3, .undef V, fun k o h => by cases h⟩
        have q2 := q.trans (hor.put o.dst)
        have hx3 := hx.step q3
        have hszw : (w'.alloc obj).heap.size = w'.heap.size + 1 := by simp
        have hbig : w.heap.size ≤ w'.heap.size := q.evo.size
        have hfl : ¬ FL σ' lam' (stL listed) w'.heap.size := fun hf => by
          rcases hf with hf | ⟨k, b, hb, hl, e⟩
          · exact Nat.lt_irrefl _ (Foot.lt hrel.heap hf)
          · have := hrel.loc.lt k b hb hl; omega
        have old : ∀ j nv', p.N j = some nv' → (listed.getD j false || j == i) = true → j ≠ i → listed.getD j false = true := fun j nv' hn hs hne => by
          have : (j == i) = false := by simpa using hne
          rw [this, Bool.or_false] at hs
          exact hs
        have hx2 : XI ops p w.heap.size (fun j => listed.getD j false || j == i) σ' lam' (stL (listed.setIfInBounds i true)) (w'.alloc obj) (a'.put o.dst V) (fun j => if j = i then ⟨w'.heap.size, 0, cap⟩ else Pf j) := by
          have hFL : ∀ g, FL σ' lam' (stL (listed.setIfInBounds i true)) g ↔ FL σ' lam' (stL listed) g := fun g => by
            unfold FL
            simp only [stL, hE0 hE]
          have hcont : ∀ j, p.cont j (fun k => listed.getD k false || k == i) = p.cont j (fun k => listed.getD k false) := fun j => hp.congr j _ _ fun k hk => by
            have : (k == i) = false := by
              simp only [beq_eq_false_iff_ne]
              intro e; subst e; rw [hI] at hk; cases hk
            rw [this, Bool.or_false]
          have hnx : (stL (listed.setIfInBounds i true)).heap.next = (stL listed).heap.next := by simp only [stL, hE0 hE]
          refine ⟨fun j nv' hn hs => ?_, fun j nv' hn hs => ?_, fun j nv' hn hs => ?_, fun j nv' hn hs => ?_, fun j nv' hn hs d V' hd hV => ?_, fun j k nv' nv'' hn hn' hs hs' hjk => ?_⟩
          · by_cases hji : j = i
            · rw [if_pos hji]; exact hbig
            · rw [if_neg hji]; exact hx.new j nv' hn (old j nv' hn hs hji)
          · by_cases hji : j = i
            · rw [if_pos hji, hszw]; show w'.heap.size < _; omega
            · rw [if_neg hji, hszw]
              have := hx.lt j nv' hn (old j nv' hn hs hji)
              omega
          · rw [hFL]
            by_cases hji : j = i
            · rw [if_pos hji]; exact hfl
            · rw [if_neg hji]; exact hx.far j nv' hn (old j nv' hn hs hji)
          · rw [hcont j, hnx]
            by_cases hji : j = i
            · subst hji
              rw [if_pos rfl]
              exact h3
            · rw [if_neg hji]; exact hx3.blk j nv' hn (old j nv' hn hs hji)
          · by_cases hji : j = i
            · subst hji
              rw [if_pos rfl]
              obtain rfl : nv' = nv := Option.some.inj (hn.symm.trans hN)
              rw [hdst] at hd
              rw [hd] at hV
              have hV' : (a'.tmps.setIfInBounds d V)[d]? = some V' := hV
              rw [Array.getElem?_setIfInBounds, if_pos rfl] at hV'
              split at hV'
              · cases hV'; exact h2
              · cases hV'
            · rw [if_neg hji]
              rw [tmps_put (fun e => hnd j (by
                rcases Nat.lt_or_ge j p.h with h | h
                · exact h
                · have := (hp.tailE j h).2.1; rw [hn] at this; cases this) hji d (by rw [hdst]; exact e) hd)] at hV
              exact hx.slot j nv' hn (old j nv' hn hs hji) d V' hd hV
          · by_cases hji : j = i
            · rw [if_pos hji, if_neg (fun e => hjk (hji.trans e.symm))]
              have := hx.lt k nv'' hn' (old k nv'' hn' hs' (fun e => hjk (hji.trans e.symm)))
              show w'.heap.size ≠ _
              omega
            · rw [if_neg hji]
              by_cases hki : k = i
              · rw [if_pos hki]
                have := hx.lt j nv' hn (old j nv' hn hs hji)
                show _ ≠ w'.heap.size
                omega
              · rw [if_neg hki]
                exact hx.dis j k nv' nv'' hn hn' (old j nv' hn hs hji) (old k nv'' hn' hs' hki) hjk
        refine goOn (σ2 := σ') (lam2 := lam') (noPan hE) ?_ hx2
        simp only [stL, hputE] at q2
        simp only [stL, henv, hE0 hE, hD]
        exact q2
      | ins m nv hgt hI hN hao =>
        rw [hg _ hgt]
        simp only [if_true]
        refine .inl ?_
        obtain ⟨hE, hNi, hD, _, hmi⟩ := hp.ins i m hI
        have hml := hanc m hmi
        have hio := hao _ hk1 hk2 (fun j => listed.getD j false) hun'
        rw [← hmask] at hio
        obtain ⟨obj, h1, h2⟩ := hio σ' lam' w' a' ⟨hrel.heap, hrel.loc, hrel.env.mask _, hrel.defers⟩ (Pf m) (fun d hd V hV => hx.slot m nv hN hml d V hd hV) (hx.blk m nv hN hml)
        unfold Oper.wp
        rw [h1]
        show wpAny _ _ _ _ _ _ (a'.put o.dst undef) (setBlk w' (Pf m).g obj)
        have hfar := hx.far m nv hN hml
        have hnew := hx.new m nv hN hml
        have q3 := q.beside hG hnew hfar obj
        have hor : OR G σ' lam' (stL listed) (setBlk w' (Pf m).g obj) a' (.v .undef) (stL listed) undef (setBlk w' (Pf m).g obj) σ' lam' := ⟨.refl .normal q3.rel, .undef _, fun k o h => by cases h⟩
        have q2 := q3.trans (hor.put o.dst)
        have old : ∀ j nv', p.N j = some nv' → (listed.getD j false || j == i) = true → listed.getD j false = true ∧ j ≠ i := fun j nv' hn hs => by
          have hne : j ≠ i := fun e => by subst e; rw [hNi] at hn; cases hn
          have : (j == i) = false := by simpa using hne
          rw [this, Bool.or_false] at hs
          exact ⟨hs, hne⟩
        have hx2 : XI ops p w.heap.size (fun j => listed.getD j false || j == i) σ' lam' (stL (listed.setIfInBounds i true)) (setBlk w' (Pf m).g obj) (a'.put o.dst undef) Pf := by
          refine ⟨fun j nv' hn hs => hx.new j nv' hn (old j nv' hn hs).1, fun j nv' hn hs => ?_, fun j nv' hn hs => ?_, fun j nv' hn hs => ?_, fun j nv' hn hs d V' hd hV => ?_, fun j k nv' nv'' hn hn' hs hs' => hx.dis j k nv' nv'' hn hn' (old j nv' hn hs).1 (old k nv'' hn' hs').1⟩
          · rw [setBlk_size]; exact hx.lt j nv' hn (old j nv' hn hs).1
          · have := hx.far j nv' hn (old j nv' hn hs).1
            unfold FL at this ⊢
            simp only [stL, hE0 hE] at this ⊢
            exact this
          · have hnx : (stL (listed.setIfInBounds i true)).heap.next = (stL listed).heap.next := by simp only [stL, hE0 hE]
            rw [hnx]
            by_cases hjm : j = m
            · subst hjm; exact h2
            · rw [hp.congr j _ (fun k => listed.getD k false) fun k hk => by
                have : (k == i) = false := by
                  simp only [beq_eq_false_iff_ne]
                  intro e; subst e; rw [hI] at hk; exact hjm (Option.some.inj hk).symm
                rw [this, Bool.or_false]]
              exact (hx.blk j nv' hn (old j nv' hn hs).1).mono (Nat.le_refl _) (fun _ _ => rfl) (by simp [setBlk_size]) (setBlk_ne _ _ _ _ (hx.dis j m nv' nv hn hN (old j nv' hn hs).1 hml hjm))
          · rw [tmps_put (fun e => (hp.new j nv' hn).2.2.2 i hih (fun e => (old j nv' hn hs).2 e.symm) d hd (by rw [hdst]; exact e))] at hV
            exact hx.slot j nv' hn (old j nv' hn hs).1 d V' hd hV
        refine goOn (σ2 := σ') (lam2 := lam') (noPan hE) ?_ hx2
        simp only [stL, hputE] at q2
        simp only [stL, henv, hE0 hE, hD]
        exact q2
  have hz : ∀ j, (Array.replicate ops.size false).getD j false = false := fun j => getD_replicate_false _ _
  have e1 : stL (Array.replicate ops.size false) = ⟨e0, loc, heap⟩ := by
    have h1 : envN ops p.D e0 (fun j => (Array.replicate ops.size false).getD j false) ops.size = e0 := by
      rw [envN_congr (lis' := fun _ => false) fun j hj => hz j]
      have : ∀ n, envN ops p.D e0 (fun _ => false) n = e0 := by
        intro n
        induction n with
        | zero => rfl
        | succ n ih => simp only [envN]; exact ih
      exact this _
    have h2 : cnt (fun j => (Array.replicate ops.size false).getD j false && p.E j) ops.size = 0 := by
      rw [cnt_congr (q := fun _ => false) fun j hj => by rw [hz j]; rfl]
      have : ∀ n, cnt (fun _ => false) n = 0 := by
        intro n
        induction n with
        | zero => rfl
        | succ n ih => simp only [cnt, ih]; rfl
      exact this _
    simp only [stL, h1, h2, h0]
  refine main ops.size _ _ _ σ lam (fun _ => ⟨0, 0, 0⟩) (by simp) (fun i o ho hl => ?_) (fun r _ => hz r) (fun j _ => hz j) ?_ ?_ ?_
  · simp only [hz] at hl; cases hl
  · rw [cnt_congr (q := fun _ => true) fun j hj => by rw [hz j]; rfl]
    have : ∀ n, cnt (fun _ => true) n = n := by
      intro n
      induction n with
      | zero => rfl
      | succ n ih => simp only [cnt, ih, if_true]
    exact this _
  · rw [e1]
    exact AQ1.drew hr
  · have no : ∀ i, (Array.replicate ops.size false).getD i false = true → False := fun i h => by rw [hz i] at h; cases h
    exact ⟨fun i _ _ h => (no i h).elim, fun i _ _ h => (no i h).elim, fun i _ _ h => (no i h).elim, fun i _ _ h => (no i h).elim, fun i _ _ h => (no i h).elim, fun i _ _ _ _ _ h => (no i h).elim⟩
end
end Go.Abs
namespace Go.Abs
section
variable {P : Program} {G : Nat → Option (List AVal)} {st : St}
/-- A new variable of a type, at once of the heap, its type told. -/
theorem AO.allocT {o : Oper} {t : TypeId} {K : TVal → St → Prop} {Kx : AVal → St → Prop} {i : TypeInfo} {z : Value} {l : List AVal} (ho : o.op = .alloc t) (hi : P.info? t = some i) (hz : i.zero = some z) (hl : acells (ofZero z) = some l)
    (hK : K (.v (.ptr st.heap.next 0)) { st with heap := st.heap.alloc (.tcells t l) }) : AO P G o K Kx st := by
  refine AO.valueW hK fun σ lam w a hr => ?_
  have hc := acells_rel (ofZero_rel σ (st.heap.next) z) hl
  refine ⟨_, w.alloc (.cells z.cells t), upd σ st.heap.next ⟨w.heap.size, 0, 1⟩, lam, by simp [execOp, ho, Instr.alloc, run_zero hi hz, run_newVar]; rfl, ⟨AQ1.newHeap hr (.tcells t l) (.cells z.cells t) 1 ?_, ?_, fun k o h => by cases h⟩⟩
  · refine ⟨z.cells, (0, 0), heap_alloc_at w _, by simp, rfl, hc.1.symm, fun j v hv => ?_⟩
    have hj : j < z.cells.size := by rw [hc.1]; exact (List.getElem?_eq_some_iff.1 hv).1
    exact ⟨z.cells[j], by simp [hj], (hc.2 j v _ hv (by simp [hj])).mono (Nat.le_succ _) (fun b hb => upd_lt _ _ _ hb)⟩
  · have := VR.ptr (σ := upd σ st.heap.next ⟨w.heap.size, 0, 1⟩) (N := st.heap.next + 1) st.heap.next 0 (Nat.lt_succ_self _)
    rw [upd_at] at this
    exact this
/-- `store` into such a one. -/
theorem AO.storeT {o : Oper} {t T : TypeId} {x y : Operand} {K : TVal → St → Prop} {Kx : AVal → St → Prop} {i : TypeInfo} {vs l : List AVal} {b o' : Nat} (ho : o.op = .store t x y) (hi : P.info? t = some i) (hvs : storeVals (st.ev y) = some vs) (hsz : vs.length = i.size)
    (hx : st.ev x = .v (.ptr b o')) (hb : st.heap.get b = some (.tcells T l)) (hlen : o' + vs.length ≤ l.length) (hK : K (.v (.tup [])) { st with heap := st.heap.set b (.tcells T (lset l o' vs)) }) : AO P G o K Kx st := by
  refine AO.skipW hK fun σ lam w a hr => ?_
  have hx' := ev_rel hr x
  rw [hx] at hx'
  have hx2 : a.eval x = .pointer (some ⟨(σ b).g, (σ b).off + o', none⟩) := by
    generalize a.eval x = V at hx'
    cases hx'; rfl
  obtain ⟨cs, fr, h1, h2, h3, h4, h5⟩ := hr.heap.blk b _ hb
  obtain ⟨hV, hone⟩ := storeVals_rel (ev_rel hr y) hvs
  have hrun := run_storeVar (P := P) (t := t) hi h1 (V := a.eval y) (by rw [hV.1]; exact hsz) hone (o := (σ b).off + o') (by rw [hV.1]; omega) h2
  refine ⟨_, σ, lam, by simp [execOp, ho, Instr.storeAt, Instr.sureAddr, hx2, hrun], AQ1.setHeap hr hb rfl _ ⟨wr cs ((σ b).off + o') (a.eval y).cells.toList, fr, setBlk_at _ _ _ (Array.getElem?_eq_some_iff.1 h1).1, by simpa [wr_size] using h2, h3, by rw [lset_length, wr_size]; exact h4, wr_rel h5 hV hlen (by omega)⟩ rfl⟩
/-- An address held against itself. -/
theorem AVK.ptrEq {o : Oper} {op : BinOp} {t t' te : TypeId} {x y : Operand} {K : TVal → St → Prop} {b k : Nat} {j : TypeInfo} (ho : o.op = .binOp op t x y t') (hx : st.ev x = .v (.ptr b k)) (hy : st.ev y = .v (.ptr b k))
    (hp : P.underlying t = some (.pointer te)) (hte : P.info? te = some j) (hop : op = .eql ∧ K (.v (.bool true)) st ∨ op = .neq ∧ K (.v (.bool false)) st) : AVK P G o K st := by
  have h : ∀ (A : Addr) (d : Nat) (w : World), (Op.equalIn (d + 1) t (.pointer (some A)) (.pointer (some A))).run P w = .ok true w := fun A d w => by
    simp [Op.equalIn, run_underlying hp, sizeOf, typeInfo, hte, run_sameAddr_same]
  rcases hop with ⟨rfl, hK⟩ | ⟨rfl, hK⟩
  · refine AVK.pure2 hx hy hK fun σ N a w V U hV hU h1 h2 => ⟨.bool true, ?_, .bool _⟩
    cases h1; cases h2
    simp [execOp, ho, hV, hU, eqGuard, Go.binOp, Op.equal, Op.maxDepth, h _ 9999 w]
  · refine AVK.pure2 hx hy hK fun σ N a w V U hV hU h1 h2 => ⟨.bool false, ?_, .bool _⟩
    cases h1; cases h2
    simp [execOp, ho, hV, hU, eqGuard, Go.binOp, Op.equal, Op.maxDepth, h _ 9999 w]
/-- An address as unsafe.Pointer. -/
theorem AVK.toUnsafe {o : Oper} {a d t : TypeId} {x : Operand} {K : TVal → St → Prop} {b k : Nat} {l : List AVal} (ho : o.op = .convert a d x) (ha : P.underlying a = some (.pointer t)) (hd : P.underlying d = some .unsafePointer)
    (hsz : (P.info? t).map (fun i => decide (i.size = 0)) = some false) (hx : st.ev x = .v (.ptr b k)) (hat : st.at G (.v (.ptr b k)) = some (l, k)) (hk : k < l.length) (hK : K (.v (.ptr b k)) st) : AVK P G o K st := by
  refine AVK.value hK fun σ lam w act hr => ?_
  have h1 := ev_rel hr x
  rw [hx] at h1
  obtain ⟨g, off, hV, hc⟩ := at_rel hr (t := .v (.ptr b k)) (V := act.eval x) h1 hat
  obtain ⟨U, hU, _⟩ := hc 0 l[k] (by simp [hk])
  simp only [Nat.add_zero] at hU
  refine ⟨act.eval x, ?_, h1, fun k o he => by cases he⟩
  rw [hV]
  simp only [execOp, ho, hV, run_convert_to_unsafe ha hd hsz hU, Sem.run_bind, Sem.run_map, Result.andThen_ok, Sem.run_pure]
/-- .. and back, where a variable of just that type lies. -/
theorem AVK.fromUnsafe {o : Oper} {a d u : TypeId} {x : Operand} {K : TVal → St → Prop} {b : Nat} {l : List AVal} {j : TypeInfo} (ho : o.op = .convert a d x) (ha : P.underlying a = some .unsafePointer) (hd : P.underlying d = some (.pointer u))
    (hu : P.info? u = some j) (hx : st.ev x = .v (.ptr b 0)) (hb : st.heap.get b = some (.tcells u l)) (hl : l.length = P.cellsOf u) (h0 : 0 < l.length) (hK : K (.v (.ptr b 0)) st) : AVK P G o K st := by
  refine AVK.value hK fun σ lam w act hr => ?_
  have h1 := ev_rel hr x
  rw [hx] at h1
  have hV : act.eval x = .pointer (some ⟨(σ b).g, (σ b).off + 0, none⟩) := by
    have h1' : VR σ st.heap.next (.ptr b 0) (act.eval x) := h1
    generalize act.eval x = V at h1'
    cases h1'; rfl
  obtain ⟨cs, fr, g1, g2, g3, g4, g5⟩ := hr.heap.blk b _ hb
  have hsh : w.shape? (σ b).g = some (u, cs.size) := by simp [World.shape?, g1]
  have hlies : liesAt P P.depth u (cs.size / P.cellsOf u) 0 u 1 = true := by
    have hd' : P.depth = (2 * (P.types.size + Made.depth) + 1) + 1 := rfl
    rw [hd']
    simp only [liesAt, Bool.or_eq_true]
    left
    rw [hd']
    have hc : cs.size / P.cellsOf u = 1 := by rw [← g4, hl]; exact Nat.div_self (by omega)
    have hne : P.cellsOf u ≠ 0 := by omega
    simp [rowAt, hc, hne, sameLayout]
  refine ⟨act.eval x, ?_, h1, fun k o he => by cases he⟩
  rw [hV]
  have := Lib.run_from_unsafe (P := P) w (src := a) (dst := d) ⟨(σ b).g, (σ b).off + 0, none⟩ ha hd hu hsh (by rw [g3]; exact hlies)
  simp only [execOp, ho, hV, this, Sem.run_bind, Sem.run_map, Result.andThen_ok, Sem.run_pure]
/-- What append makes of a row of bytes. -/
inductive AppB (e : TypeId) (H : AHeap) : AVal → List UInt8 → AVal → AHeap → Prop where
  | nil (s : List UInt8) (h : 0 < s.length) : AppB e H .nilsl s (.sl H.next 0 s.length (.rest 0)) (H.alloc (.buf e s))
  | app (b : Nat) (l s : List UInt8) (hb : H.get b = some (.buf e l)) : AppB e H (.sl b 0 l.length (.rest 0)) s (.sl H.next 0 (l.length + s.length) (.rest 0)) ((H.kill b).alloc (.buf e (l ++ s)))
def ofBytes (s : List UInt8) : List AVal := s.map fun c => .int .u8 c.toNat
theorem BlkR.ofRow {σ : Nat → Pl} {N : Nat} {w : World} {e : TypeId} {s : List UInt8} {cs : Array Value} {g cap : Nat} (hg : w.heap[g]? = some (.cells cs e (0, 0))) (h1 : s.length ≤ cap) (h2 : cap ≤ cs.size) (h : ∀ (i : Nat) (c : UInt8), s[i]? = some c → cs[i]? = some (.int .u8 c.toNat)) : BlkR σ N ⟨g, 0, cap⟩ w (.buf e s) :=
  ⟨cs, (0, 0), hg, by simp, rfl, h1, h2, h⟩
theorem vrs_bytes {σ : Nat → Pl} {N : Nat} {s : List UInt8} {cs : Array Value} (h : VRs σ N (ofBytes s) cs) (i : Nat) (c : UInt8) (hc : s[i]? = some c) : cs[i]? = some (.int .u8 c.toNat) := by
  have hi : i < s.length := (List.getElem?_eq_some_iff.1 hc).1
  have hi' : i < cs.size := by rw [h.1]; simpa [ofBytes] using hi
  have := h.2 i (.int .u8 c.toNat) cs[i] (by simp [ofBytes, hc]) (by simp [hi'])
  rw [Array.getElem?_eq_getElem hi']
  generalize cs[i] = V at this
  cases this; rfl
theorem AO.appendB {o : Oper} {t0 t1 e : TypeId} {x y : Operand} {K : TVal → St → Prop} {Kx : AVal → St → Prop} {d1 : TypeDesc} {i : TypeInfo} {z : Value} {vx vy r : AVal} {n len : Nat} {s : List UInt8} {H' : AHeap}
    (ho : o.op = .call { callee := .builtin .append, args := #[x, y], argTypes := #[t0, t1] }) (h0 : P.underlying t0 = some (.slice e)) (h1 : P.underlying t1 = some d1) (hd : notInt d1 = true) (hi : P.info? e = some i) (hz : i.zero = some z) (hb : 0 < i.bytes)
    (hes : i.size = 1) (hzs : z.cells.size = i.size) (hx : st.ev x = .v vx) (hy : st.ev y = .v vy) (hsrc : asrc st.heap 1 vy = some (n, ofBytes s)) (hlen : slen vx = some len) (hfit : (len + n) * i.bytes ≤ 140737488355328) (hA : AppB e st.heap vx s r H')
    (hK : K (.v r) { st with heap := H' }) : AO P G o K Kx st := by
  refine AO.valueW hK fun σ lam w a hr => ?_
  have hX := ev_rel hr x
  rw [hx] at hX
  have hY := ev_rel hr y
  rw [hy] at hY
  have hsrc' : asrc st.heap i.size vy = some (n, ofBytes s) := by rw [hes]; exact hsrc
  obtain ⟨hl, News, hN, hrunN⟩ := asrc_rel (P := P) hr hY hsrc'
  have hcl := asrc_len hsrc'
  have hns : s.length = n := by
    have : (ofBytes s).length = s.length := by simp [ofBytes]
    rw [this, hes] at hcl
    omega
  have hop : ∀ V w', (Builtin.append_ #[t0, t1] o.type #[a.eval x, a.eval y]).run P w = .ok V w' → (execOp a.eval o).run P w = .ok (.value V) w' := fun V w' h => by
    simp [execOp, ho, resolve, invoke, builtin, h]
  have hNs : News.size = n := by rw [hN.1, hcl, hes]; omega
  have outB : ∀ {σ1 : Nat → Pl} {st1 : St} {w1 : World} (hr1 : Rel G σ1 lam st1 w1 a) {Old : Array Value} {l : List UInt8} {base : Option Addr} {cap : Nat}, w1 = w → (∀ (i : Nat) (c : UInt8), l[i]? = some c → Old[i]? = some (.int .u8 c.toNat)) → Old.size = l.length → cap < l.length + n → l.length = len →
      (Builtin.firstCells i.size len (.slice base len cap)).run P w.drew = .ok Old w.drew →
      ∃ V w' σ', (Builtin.append_ #[t0, t1] o.type #[.slice base len cap, a.eval y]).run P w = .ok V w' ∧ OR G σ1 lam st1 w1 a (.v (.sl st1.heap.next 0 (len + n) (.rest 0))) { st1 with heap := st1.heap.alloc (.buf e (l ++ s)) } V w' σ' lam := by
    intro σ1 st1 w1 hr1 Old l base cap hw hO hOs hc hll hold
    subst hw
    have hrun := run_append_out (P := P) (ty := o.type) h0 h1 hd hi hz hb hl (hrunN w1.drew rfl) (by omega) hold hfit
    have hge := grownCap_ge w1 (len + n) cap e
    have q := AQ1.drew hr1
    have hsz : (Old ++ News ++ Builtin.zeroCells z.cells (grownCap w1 (len + n) cap e - (len + n))).size = grownCap w1 (len + n) cap e := by
      simp only [Array.size_append, zero_size, hzs, hes, hOs, hNs]
      omega
    have q2 := AQ1.newHeap q.rel (.buf e (l ++ s)) (.cells (Old ++ News ++ Builtin.zeroCells z.cells (grownCap w1 (len + n) cap e - (len + n))) e) (grownCap w1 (len + n) cap e)
      (BlkR.ofRow (heap_alloc_at w1.drew _) (by simp; omega) (by rw [hsz]; exact Nat.le_refl _) fun j c hc => by
        rcases Nat.lt_or_ge j l.length with hj | hj
        · rw [List.getElem?_append_left hj] at hc
          rw [Array.append_assoc, Array.getElem?_append_left (by omega)]
          exact hO j c hc
        · rw [List.getElem?_append_right hj] at hc
          have hjs : j - l.length < s.length := (List.getElem?_eq_some_iff.1 hc).1
          rw [Array.append_assoc, Array.getElem?_append_right (by omega), Array.getElem?_append_left (by omega), hOs]
          exact vrs_bytes hN _ c hc)
    exact ⟨_, _, _, hrun, ⟨q.trans q2, slr_new hge, fun k o he => by cases he⟩⟩
  cases hA with
  | nil _ hpos =>
    have hX' : a.eval x = .slice none 0 0 := by
      generalize a.eval x = V at hX
      cases hX; rfl
    simp only [slen, Option.some.injEq] at hlen
    subst hlen
    obtain ⟨V, w', σ', h2, h3⟩ := outB hr (Old := #[]) (l := []) (base := none) (cap := 0) rfl (fun j c hc => by simp at hc) rfl (by simp; omega) rfl rfl
    refine ⟨V, w', σ', lam, hop _ _ (by rw [hX']; exact h2), ?_⟩
    simpa [hns] using h3
  | app b l _ hbk =>
    simp only [slen, Option.some.injEq] at hlen
    subst hlen
    have hX' : a.eval x = .slice (some ⟨(σ b).g, (σ b).off + 0, none⟩) l.length ((σ b).cap - 0) ∧ l.length + 0 ≤ (σ b).cap := by
      generalize a.eval x = V at hX
      cases hX; exact ⟨rfl, by assumption⟩
    obtain ⟨hX', hlk⟩ := hX'
    simp only [Nat.sub_zero, Nat.add_zero] at hX' hlk
    obtain ⟨cells, fr, g1, g2, g3, g4, g5, g6⟩ := hr.heap.blk b _ hbk
    have hcell : ∀ w' : World, w'.heap = w.heap → ∀ j, w'.cell? j = w.cell? j := fun w' hw j => by unfold World.cell?; rw [hw]
    by_cases hroom : l.length + n ≤ (σ b).cap
    · have hone : ∀ u ∈ News.toList, one u = true := fun u hu => by
        obtain ⟨j, hj, rfl⟩ := List.mem_iff_getElem.1 hu
        have hj' : j < s.length := by rw [hns, ← hNs]; simpa using hj
        have := vrs_bytes hN j s[j] (by simp [hj'])
        have hjN : j < News.size := by rw [hNs, ← hns]; exact hj'
        rw [Array.getElem?_eq_getElem hjN] at this
        simp only [Array.getElem_toList]
        rw [Option.some.inj this]
        rfl
      have hrun := run_append_in (P := P) (ty := o.type) h0 h1 hd hi (o := (σ b).off) hl (hrunN w rfl) hroom g1 hone (by rw [hNs, hes, g3]; omega) g2
      have hren := AQ1.rename hr hbk rfl (nb := .buf e l) rfl (σ b) rfl ⟨cells, fr, g1, g2, g3, g4, g5, g6⟩
      have hold : ((st.heap.kill b).alloc (.buf e l)).get st.heap.next = some (.buf e l) := by
        rw [AHeap.get_alloc, if_pos (show st.heap.next = (st.heap.kill b).next from rfl)]
      have hset := AQ1.setHeap hren.rel (b := st.heap.next) hold rfl (nb := .buf e (l ++ s)) (.cells (wr cells ((σ b).off + l.length * i.size) News.toList) e fr)
        (by
          rw [upd_at]
          refine ⟨_, fr, setBlk_at _ _ _ (Array.getElem?_eq_some_iff.1 g1).1, by simpa [wr_size] using g2, g3, by simp; omega, by rw [wr_size]; exact g5, fun j c hc => ?_⟩
          have hNl : News.toList.length = n := by simpa using hNs
          rw [wr_get _ _ _ (by rw [hNl, hes, g3]; omega), hes, g3, hNl]
          rcases Nat.lt_or_ge j l.length with hj | hj
          · rw [List.getElem?_append_left hj] at hc
            rw [if_neg (by omega)]
            exact g6 j c hc
          · rw [List.getElem?_append_right hj] at hc
            have hjs : j - l.length < s.length := (List.getElem?_eq_some_iff.1 hc).1
            rw [if_pos (by omega)]
            have e1 : j - (0 + l.length * 1) = j - l.length := by omega
            rw [e1, Array.getElem?_toList]
            exact vrs_bytes hN _ c hc) rfl
      refine ⟨_, _, upd σ st.heap.next (σ b), lam, hop _ _ (by rw [hX']; exact hrun), ⟨?_, ?_, fun k o he => by cases he⟩⟩
      · have hq := hren.trans hset
        rw [upd_at] at hq
        simp only [AHeap.alloc_set, show st.heap.next = (st.heap.kill b).next from rfl] at hq ⊢
        exact hq
      · have := VR.slr (σ := upd σ st.heap.next (σ b)) (N := st.heap.next + 1) st.heap.next 0 (l.length + n) 0 (Nat.lt_succ_self _) (by rw [upd_at]; simpa using hroom)
        rw [upd_at] at this
        simp only [Nat.add_zero, Nat.sub_zero] at this
        rw [hns]
        exact this
    · have hkill := AQ1.kill hr b
      have hex : ∀ j, j < l.length * 1 → ∃ V, w.drew.cell? ⟨(σ b).g, (σ b).off + j, none⟩ = some V := fun j hj => by
        have hj' : j < l.length := by omega
        refine ⟨.int .u8 l[j].toNat, ?_⟩
        rw [hcell w.drew rfl, cell?_of g1, g3, Nat.zero_add]
        exact g6 j l[j] (by simp [hj'])
      obtain ⟨Old, h3, h4, h5⟩ := run_loadCells (P := P) hex
      obtain ⟨V, w', σ', h6, h7⟩ := outB (st1 := { st with heap := st.heap.kill b }) hkill.rel (Old := Old) (l := l) (base := some ⟨(σ b).g, (σ b).off, none⟩) (cap := (σ b).cap) rfl (fun j c hc => by
          have hj : j < l.length := (List.getElem?_eq_some_iff.1 hc).1
          rw [h5 j (by omega), hcell w.drew rfl, cell?_of g1, g3, Nat.zero_add]
          exact g6 j c hc) (by omega) (by omega) rfl (by rw [hes]; exact h3)
      refine ⟨V, w', σ', lam, hop _ _ (by rw [hX']; exact h6), ?_⟩
      have h8 : OR G σ lam st w a (.v (.sl st.heap.next 0 (l.length + n) (.rest 0))) { st with heap := (st.heap.kill b).alloc (.buf e (l ++ s)) } V w' σ' lam := ⟨hkill.trans h7.q, h7.tr, h7.lp⟩
      rw [hns]
      exact h8
/-- unsafe.String over a row of bytes: its bytes; from then on they stay. -/
theorem AO.unsafeString {o : Oper} {pt it e : TypeId} {x y : Operand} {K : TVal → St → Prop} {Kx : AVal → St → Prop} {b : Nat} {l : List UInt8} (ho : o.op = .call { callee := .builtin .unsafeString, args := #[x, y], argTypes := #[pt, it] })
    (hp : P.underlying pt = some (.pointer e)) (hc : P.cellsOf e = 1) (hx : st.ev x = .v (.ptr b 0)) (hy : st.ev y = .v (.int .i64 l.length)) (hb : st.heap.get b = some (.buf e l)) (h0 : 0 < l.length) (h63 : l.length ≤ 9223372036854775807)
    (hK : K (.v (.str l)) { st with heap := st.heap.set b (.cells 1 (ofBytes l) false) }) : AO P G o K Kx st := by
  refine AO.valueW hK fun σ lam w a hr => ?_
  have hX := ev_rel hr x
  rw [hx] at hX
  have hY := ev_rel hr y
  rw [hy] at hY
  have hX' : a.eval x = .pointer (some ⟨(σ b).g, (σ b).off + 0, none⟩) := by
    have hX' : VR σ st.heap.next (.ptr b 0) (a.eval x) := hX
    generalize a.eval x = V at hX'
    cases hX'; rfl
  have hY' : a.eval y = .int .i64 l.length := by
    have hY' : VR σ st.heap.next (.int .i64 l.length) (a.eval y) := hY
    generalize a.eval y = V at hY'
    cases hY'; rfl
  obtain ⟨cs, fr, g1, g2, g3, g4, g5, g6⟩ := hr.heap.blk b _ hb
  have hg : (σ b).g < w.heap.size := (Array.getElem?_eq_some_iff.1 g1).1
  have hsh : w.shape? (σ b).g = some (e, cs.size) := by simp [World.shape?, g1]
  have hcell : ∀ j x, l[j]? = some x → w.cell? ((⟨(σ b).g, 0, none⟩ : Addr).add j) = some (.int .u8 x.toNat) := fun j x hx => by
    rw [add_none, Nat.zero_add, cell?_of g1]
    exact g6 j x hx
  have hrun := Lib.run_unsafeString_row (P := P) w pt it o.type e hp hc (σ b).g cs.size hsh l (by intro e; rw [e] at h0; simp at h0) (by omega) h63 hcell
  let fr' : Nat × Nat := if fr.1 == fr.2 then (0, 0 + l.length) else (min fr.1 0, max fr.2 (0 + l.length))
  have hfz : w.freeze ⟨(σ b).g, 0, none⟩ l.length = setBlk w (σ b).g (.cells cs e fr') := by
    unfold World.freeze setBlk
    rw [if_neg (by omega)]
    congr 1
    apply Array.ext_getElem?
    intro k
    rw [Array.getElem?_modify, Array.getElem?_setIfInBounds]
    split
    · rename_i hk
      subst hk
      rw [g1]
      obtain ⟨lo, hi⟩ := fr
      simp only [Option.map_some, fr']
    · rfl
  refine ⟨.string ⟨l.toArray⟩, _, σ, lam, by simp [execOp, ho, resolve, invoke, builtin, hX', hY', g3, hrun]; rfl, ⟨?_, .str l, fun k o he => by cases he⟩⟩
  rw [hfz]
  have q := AQ1.setHeap hr hb rfl (nb := .buf e l) (.cells cs e fr') 
  have hget : ∀ (j : Nat) (c : ABlk), (st.heap.set b (.cells 1 (ofBytes l) false)).get j = some c → (j = b ∧ c = .cells 1 (ofBytes l) false) ∨ (j ≠ b ∧ st.heap.get j = some c) := fun j c h => by
    rw [AHeap.get_set] at h
    by_cases hij : j = b
    · rw [if_pos hij] at h
      exact .inl ⟨hij, (Option.some.inj h).symm⟩
    · rw [if_neg hij] at h
      exact .inr ⟨hij, h⟩
  have hold : ∀ (j : Nat) (c : ABlk), (st.heap.set b (.cells 1 (ofBytes l) false)).get j = some c → ∃ c', st.heap.get j = some c' ∧ (c.rw = true → c'.rw = true) := fun j c h => by
    rcases hget j c h with ⟨rfl, rfl⟩ | ⟨_, h⟩
    · exact ⟨_, hb, fun _ => rfl⟩
    · exact ⟨c, h, id⟩
  have hfoot : ∀ g, Foot σ (st.heap.set b (.cells 1 (ofBytes l) false)) g → Foot σ st.heap g := fun g ⟨j, c, h, e⟩ => by
    obtain ⟨c', h', _⟩ := hold j c h
    exact ⟨j, c', h', e⟩
  have hown : ∀ g, Own σ (st.heap.set b (.cells 1 (ofBytes l) false)) g → Own σ st.heap g := fun g ⟨j, c, h, hc, e⟩ => by
    obtain ⟨c', h', hc'⟩ := hold j c h
    exact ⟨j, c', h', hc' hc, e⟩
  refine ⟨.normal, ⟨⟨fun j c h => ?_, fun j c h => ?_, fun j k c c' h h' hjk hc => ?_, ?_, fun j c g l h hc hg => ?_⟩, ⟨fun j c h => ?_, fun j c h hc hf => ?_, hr.loc.inj, hr.loc.glob, fun j c h hc => by rw [setBlk_size]; exact hr.loc.lt j c h hc⟩, hr.env, hr.defers⟩, fun _ _ => rfl, Nat.le_refl _, Nat.le_refl _, fun _ _ => rfl, ⟨rfl, rfl, rfl, by simp [setBlk_size], fun g hg' ho' => ?_, ?_, ?_⟩⟩
  · obtain ⟨c', h', _⟩ := hold j c h
    exact hr.heap.lt j c' h'
  · rcases hget j c h with ⟨rfl, rfl⟩ | ⟨hji, h⟩
    · refine ⟨by rw [setBlk_size]; exact hg, fun k v hv => ?_⟩
      simp only [ofBytes, List.getElem?_map] at hv
      cases hlk : l[k]? with
      | none => rw [hlk] at hv; cases hv
      | some c =>
        rw [hlk] at hv
        cases hv
        refine ⟨.int .u8 c.toNat, ?_, .int _ _⟩
        rw [cell?_of (setBlk_at w (σ j).g _ hg), g3, Nat.zero_add]
        exact g6 k c hlk
    · exact (hr.heap.blk j c h).mono (Nat.le_refl _) (fun _ _ => rfl) (by simp [setBlk_size]) (setBlk_ne _ _ _ _ fun e => hr.heap.sep b j _ c hb h (fun e => hji e.symm) rfl e.symm)
  · obtain ⟨d, hd, hd'⟩ := hold j c h
    obtain ⟨e, he, _⟩ := hold k c' h'
    exact hr.heap.sep j k d e hd he hjk (hd' hc)
  · exact hr.heap.glob.mono (by simp [setBlk_size]) fun g l hg => setBlk_ne _ _ _ _ fun e => hr.heap.globFar b _ g l hb rfl hg e.symm
  · obtain ⟨c', h', hc'⟩ := hold j c h
    exact hr.heap.globFar j c' g l h' (hc' hc) hg
  · refine (hr.loc.blk j c h).mono (Nat.le_refl _) (fun _ _ => rfl) fun hc => setBlk_ne _ _ _ _ fun e => hr.loc.far j c h hc ⟨b, _, hb, e.symm⟩
  · exact hr.loc.far j c h hc (hfoot _ hf)
  · exact setBlk_ne _ _ _ _ fun e => ho' (.inl ⟨b, _, hb, rfl, e.symm⟩)
  · rintro g (hg | hg)
    · exact .inl (.inl (hown g hg))
    · exact .inl (.inr hg)
  · rintro g (hg | hg)
    · exact .inl (.inl (hfoot g hg))
    · exact .inl (.inr hg)
end
end Go.Abs
namespace Go.Abs
/-! ### The executor, made for the kernel: small bodies, closed alternatives. -/
structure XE where
  P : Program
  T : Tr TI
  G : Nat → Option (List AVal)
  X : FuncId → List AVal → Option AVal
  TT : TypeId → Bool
structure EOk (E : XE) : Prop where
  T : TOk E.P E.T
  X : ∀ g l r, E.X g l = some r → ∃ fn e, E.P.funcs[g]? = some fn ∧ (fn.name == "runtime.NumGoroutine") = false ∧ fn.body.isNone = true ∧ Extern.findNext fn = none ∧ Extern.find fn = some e ∧
    ∀ (σ : Nat → Pl) (N : Nat) (w : World) (Args : Array Value), VRs σ N l Args → ∃ V, (e Args).run E.P w = .ok V w ∧ VR σ N r V
abbrev ZQ := XE → XSt → Option TVal
abbrev ZX := XE → XCaller → TypeId → XSt → XO
inductive ZI where
  | q (f : ZQ)
  | x (f : ZX)
/-! Numbers. -/
def zlt (a b : Int) : Bool := match a, b with
  | .ofNat m, .ofNat n => Nat.blt m n
  | .negSucc _, .ofNat _ => true
  | .ofNat _, .negSucc _ => false
  | .negSucc m, .negSucc n => Nat.blt n m
theorem zlt_eq (a b : Int) : zlt a b = decide (a < b) := by
  cases a with
  | ofNat m =>
    cases b with
    | ofNat n =>
      show Nat.blt m n = _
      rw [blt_iff]
      simp only [Int.ofNat_eq_natCast, Int.ofNat_lt]
    | negSucc n =>
      show false = _
      have : ¬ (Int.ofNat m < Int.negSucc n) := by simp only [Int.ofNat_eq_natCast, Int.negSucc_eq]; omega
      rw [decide_eq_false this]
  | negSucc m =>
    cases b with
    | ofNat n =>
      show true = _
      have : Int.negSucc m < Int.ofNat n := by simp only [Int.ofNat_eq_natCast, Int.negSucc_eq]; omega
      rw [decide_eq_true this]
    | negSucc n =>
      show Nat.blt n m = _
      rw [blt_iff]
      have : (Int.negSucc m < Int.negSucc n) ↔ n < m := by simp only [Int.negSucc_eq]; omega
      simp only [this]
def zeq (a b : Int) : Bool := match a, b with
  | .ofNat m, .ofNat n => Nat.beq m n
  | .negSucc m, .negSucc n => Nat.beq m n
  | _, _ => false
theorem zeq_eq (a b : Int) : zeq a b = (a == b) := by
  cases a with
  | ofNat m =>
    cases b with
    | ofNat n =>
      show Nat.beq m n = _
      rw [Bool.eq_iff_iff]
      simp only [Nat.beq_eq, beq_iff_eq, Int.ofNat_eq_natCast, Int.ofNat_inj]
    | negSucc n =>
      show false = _
      simp
  | negSucc m =>
    cases b with
    | ofNat n => show false = _; simp
    | negSucc n =>
      show Nat.beq m n = _
      rw [Bool.eq_iff_iff]
      simp only [Nat.beq_eq, beq_iff_eq, Int.negSucc_inj]
def kidx : IntKind → Nat
  | .i8 => 0
  | .u8 => 1
  | .i16 => 2
  | .u16 => 3
  | .i32 => 4
  | .u32 => 5
  | .i64 => 6
  | .u64 => 7
theorem kidx_inj {a b : IntKind} (h : Nat.beq (kidx a) (kidx b) = true) : a = b := by cases a <;> cases b <;> first | rfl | (simp [kidx] at h)
def zAdd (k : IntKind) (a b : Int) : Option AVal := some (.int k (xwrap k (Int.add a b)))
def zSub (k : IntKind) (a b : Int) : Option AVal := some (.int k (xwrap k (Int.sub a b)))
def zMul (k : IntKind) (a b : Int) : Option AVal := some (.int k (xwrap k (Int.mul a b)))
def zEql (k : IntKind) (a b : Int) : Option AVal := some (.bool (zeq a b))
def zNeq (k : IntKind) (a b : Int) : Option AVal := some (.bool (not (zeq a b)))
def zLss (k : IntKind) (a b : Int) : Option AVal := some (.bool (zlt a b))
def zLeq (k : IntKind) (a b : Int) : Option AVal := some (.bool (not (zlt b a)))
def zGtr (k : IntKind) (a b : Int) : Option AVal := some (.bool (zlt b a))
def zGeq (k : IntKind) (a b : Int) : Option AVal := some (.bool (not (zlt a b)))
def zArith (op : BinOp) : Option (IntKind → Int → Int → Option AVal) := match op with
  | .add => some zAdd
  | .sub => some zSub
  | .mul => some zMul
  | .eql => some zEql
  | .neq => some zNeq
  | .lss => some zLss
  | .leq => some zLeq
  | .gtr => some zGtr
  | .geq => some zGeq
  | _ => none
def zbinInt (op : BinOp) (k k' : IntKind) (a b : Int) : Option AVal := match zArith op with
  | some f => cond (Nat.beq (kidx k) (kidx k')) (f k a b) none
  | none => xbinInt op k k' a b
theorem zbinInt_eq {op : BinOp} {k k' : IntKind} {a b : Int} {r : AVal} (h : zbinInt op k k' a b = some r) : xbinInt op k k' a b = some r := by
  unfold zbinInt at h
  cases hf : zArith op with
  | none => rw [hf] at h; exact h
  | some f =>
    rw [hf] at h
    simp only at h
    cases hk : Nat.beq (kidx k) (kidx k') with
    | false => rw [hk] at h; cases h
    | true =>
      rw [hk, cond_true] at h
      have := kidx_inj hk
      subst this
      rw [← h]
      have hle : ∀ x y : Int, decide (x ≤ y) = !decide (y < x) := fun x y => by
        rw [← decide_not]; congr 1; exact propext Int.not_lt.symm
      cases op <;> simp only [zArith, Option.some.injEq] at hf <;> first
        | (cases hf; done)
        | (subst hf
           first
           | (simp only [xbinInt, if_true, zAdd, zSub, zMul]; rfl)
           | (simp only [xbinInt, if_true, zEql, zNeq, zLss, zLeq, zGtr, zGeq, zlt_eq, zeq_eq, hle]; done)
           | (simp only [xbinInt, if_true, zEql, zNeq, zLss, zLeq, zGtr, zGeq, zlt_eq, zeq_eq, hle]; rfl))
/-- Bytes of two texts. -/
def zbeq : List UInt8 → List UInt8 → Bool
  | [], [] => true
  | x :: r, y :: l => cond (Nat.beq x.toNat y.toNat) (zbeq r l) false
  | _, _ => false
theorem zbeq_eq : ∀ a b : List UInt8, zbeq a b = (a == b)
  | [], [] => rfl
  | [], _ :: _ => rfl
  | _ :: _, [] => rfl
  | x :: r, y :: l => by
    simp only [zbeq]
    rw [zbeq_eq r l]
    cases h : Nat.beq x.toNat y.toNat with
    | true =>
      have : x = y := UInt8.toNat_inj.1 (Nat.eq_of_beq_eq_true h)
      subst this
      simp
    | false =>
      have : x ≠ y := fun e => by subst e; simp at h
      simp [this]
def zbless : List UInt8 → List UInt8 → Bool
  | [], [] => false
  | [], _ :: _ => true
  | _ :: _, [] => false
  | x :: r, y :: l => cond (Nat.blt x.toNat y.toNat) true (cond (Nat.beq x.toNat y.toNat) (zbless r l) false)
section
variable {E : XE} {s : XSt}
noncomputable def zput (d : Option Tmp) (t : TVal) (s : XSt) : Option XSt := match d with
  | some i => XSt.casesOn (motive := fun _ => Option XSt) s fun n env lc loc next heap => cond (Nat.blt i 16777214) (some (.mk n (env.set 24 i (some t)) lc loc next heap)) none
  | none => some s
theorem zput_eq (d : Option Tmp) (t : TVal) (s : XSt) : zput d t s = s.put d t := by cases d <;> rfl
/-! Values. -/
noncomputable def zMove (x : Operand) : ZQ := fun E s => some (s.ev x)
noncomputable def zPick2 (c a b : TVal) : Option TVal := match c with
  | .v (.bool t) => some (cond t a b)
  | _ => none
noncomputable def zPick (c a b : Operand) : ZQ := fun E s => zPick2 (s.ev c) (s.ev a) (s.ev b)
noncomputable def zLoad (t : TypeId) (x : Operand) : ZQ := fun E s => (xload E.T E.G t (s.ev x) s).map .v
noncomputable def zNil (x : Operand) : ZQ := fun E s => xnil (s.ev x)
noncomputable def zBinI (op : BinOp) (k : IntKind) (a : Int) (u : AVal) : Option AVal := match u with
  | .int k' b => zbinInt op k k' a b
  | _ => none
def zStrB (op : BinOp) (a b : List UInt8) : Option AVal := match op with
  | .eql => some (.bool (zbeq a b))
  | .neq => some (.bool (not (zbeq a b)))
  | op => xbinStr op a b
def zBinS (op : BinOp) (a : List UInt8) (u : AVal) : Option AVal := match u with
  | .str b => zStrB op a b
  | _ => none
noncomputable def zEqP (E : XE) (t : TypeId) (b k : Nat) (u : AVal) : Option Bool := match u with
  | .ptr b' k' => cond (Nat.beq b b' && Nat.beq k k') (match E.P.underlying t with
    | some (.pointer te) => (match E.P.info? te with
      | some _ => some true
      | none => none)
    | _ => none) none
  | _ => none
noncomputable def zBinP (E : XE) (op : BinOp) (t : TypeId) (b k : Nat) (u : AVal) : Option TVal := match zEqP E t b k u, op with
  | some r, .eql => some (.v (.bool r))
  | some r, .neq => some (.v (.bool (not r)))
  | _, _ => qbin E.P E.T op t (.v (.ptr b k)) (.v u)
noncomputable def zBinV (E : XE) (op : BinOp) (t : TypeId) (v u : AVal) : Option TVal := match v with
  | .int k a => (zBinI op k a u).map .v
  | .str a => (zBinS op a u).map .v
  | .ptr b k => zBinP E op t b k u
  | v => qbin E.P E.T op t (.v v) (.v u)
noncomputable def zBin2 (E : XE) (op : BinOp) (t : TypeId) (x y : TVal) : Option TVal := match x, y with
  | .v v, .v u => zBinV E op t v u
  | _, _ => none
noncomputable def zBin (op : BinOp) (t : TypeId) (x y : Operand) : ZQ := fun E s => zBin2 E op t (s.ev x) (s.ev y)
noncomputable def zUn (op : UnOp) (x : Operand) : ZQ := fun E s => (xun op (s.ev x)).map .v
noncomputable def zIface (t : TypeId) (x : Operand) : ZQ := fun E s => (xmakeIface E.T t (s.ev x)).map .v
noncomputable def zSlice (t : TypeId) (x : Operand) (lo hi : Option Operand) : ZQ := fun E s => (xslice E.T t (s.ev x) (lo.map s.ev) (hi.map s.ev) none).map .v
noncomputable def zSlice3 (t : TypeId) (x : Operand) (lo hi : Option Operand) (mx : Operand) : ZQ := fun E s => (aslice3 E.P t (s.ev x) (lo.map s.ev) (hi.map s.ev) (s.ev mx)).map .v
noncomputable def zFieldAddr (t : TypeId) (x : Operand) (f : Nat) : ZQ := fun E s => (xfieldOff E.T t f).bind (shift (s.ev x))
noncomputable def zField (t : TypeId) (x : Operand) (f : Nat) : ZQ := fun E s => (xfield E.T t f (s.ev x)).map .v
noncomputable def zIndexAddr (t : TypeId) (x i : Operand) : ZQ := fun E s => xindexAddr E.T t (s.ev x) (s.ev i)
noncomputable def zIndex (t : TypeId) (x i : Operand) : ZQ := fun E s => (xindex E.T t (s.ev x) (s.ev i)).map .v
noncomputable def zExtract (x : Operand) (i : Nat) : ZQ := fun E s => (xextract (s.ev x) i).map .v
noncomputable def zLookup (t : TypeId) (x k : Operand) (ok : Bool) : ZQ := fun E s => qlookup E.P t (s.ev x) (s.ev k) ok s
noncomputable def zToUnsafe (E : XE) (t : TypeId) (x : TVal) (s : XSt) : Option TVal := match x with
  | .v (.ptr b k) => (match E.P.info? t, s.at E.G (.v (.ptr b k)) with
    | some i, some (l, k') => cond (not (Nat.beq i.size 0) && (Nat.beq k' k && Nat.blt k l.length)) (some (.v (.ptr b k))) none
    | _, _ => none)
  | _ => none
noncomputable def zFromUnsafe (E : XE) (u : TypeId) (x : TVal) (s : XSt) : Option TVal := match x with
  | .v (.ptr b 0) => (match E.P.info? u, s.heap.get b with
    | some _, some (.tcells u' l) => cond (Nat.beq u u' && (Nat.beq l.length (E.P.cellsOf u) && Nat.blt 0 l.length)) (some (.v (.ptr b 0))) none
    | _, _ => none)
  | _ => none
noncomputable def zConvI (k : IntKind) (x : TVal) : Option TVal := match x with
  | .v (.int _ n) => some (.v (.int k (xwrap k n)))
  | _ => none
noncomputable def zConvP (E : XE) (a d : TypeId) (x : TVal) (s : XSt) : Option TVal := match xds E.T a, xds E.T d with
  | some (.pointer t), some .unsafePointer => zToUnsafe E t x s
  | some .unsafePointer, some (.pointer u) => zFromUnsafe E u x s
  | some _, some (.int k) => zConvI k x
  | _, _ => qconv E.P E.T a d x s
noncomputable def zTextB (E : XE) (a d : TypeId) (x : TVal) (s : XSt) : Option TVal := match x with
  | .v (.sl b 0 n _) => (match s.heap.get b with
    | some (.buf t l) => (match xds E.T a, xds E.T d with
      | some (.slice e), some .string => (match xds E.T e with
        | some (.int .u8) => cond (Nat.ble n l.length) (some (.v (.str (l.take n)))) none
        | _ => none)
      | _, _ => none)
    | _ => none)
  | _ => none
noncomputable def zConvT (E : XE) (a d : TypeId) (x : TVal) (s : XSt) : Option TVal := match zTextB E a d x s with
  | some r => some r
  | none => zConvP E a d x s
noncomputable def zConv2 (E : XE) (a d : TypeId) (x : TVal) (s : XSt) : Option TVal := match xds E.T a with
  | some (.slice _) => zConvT E a d x s
  | _ => zConvP E a d x s
noncomputable def zConv (a d : TypeId) (x : Operand) : ZQ := fun E s => zConv2 E a d (s.ev x) s
noncomputable def zLenV (E : XE) (t : TypeId) (x : TVal) (s : XSt) : Option TVal := match xds E.T t with
  | some .string => (match x with
    | .v (.str l) => some (.v (.int .i64 (.ofNat l.length)))
    | _ => none)
  | _ => qlen E.T t x s
noncomputable def zLen (t : TypeId) (x : Operand) : ZQ := fun E s => zLenV E t (s.ev x) s
noncomputable def zCap (t : TypeId) (x : Operand) : ZQ := fun E s => qcap E.T t (s.ev x)
noncomputable def zMax (x y : Operand) : ZQ := fun E s => (xminmax true (s.ev x) (s.ev y)).map .v
noncomputable def zMin (x y : Operand) : ZQ := fun E s => (xminmax false (s.ev x) (s.ev y)).map .v
noncomputable def zSliceData2 (x : TVal) : Option TVal := match x with
  | .v (.sl b o n _) => cond (Nat.blt 0 n) (some (.v (.ptr b o))) none
  | .v .nilsl => some (.v .nilptr)
  | _ => none
noncomputable def zSliceData (x : Operand) : ZQ := fun E s => zSliceData2 (s.ev x)
theorem xq_avk {P : Program} {T : Tr TI} {G : Nat → Option (List AVal)} (hT : TOk P T) {o : Oper} {t : TVal} (h : xq P T G o.op s = some t) : AVK P G o (fun r _ => r = t) s.st := ⟨t, rfl, xq_ok hT h⟩
/-! Effects. -/
noncomputable def zAlloc2 (E : XE) (t : TypeId) (z : Value) (s : XSt) : XO := cond (E.TT t) (match acells (ofZero z) with
    | some l => xnew (.tcells t l) (.ptr s.next 0) s
    | none => .bad 0) (xbox (.v (ofZero z)) s)
noncomputable def zAlloc (t : TypeId) : ZX := fun E c ty s => match xif E.T t with
  | some i => (match i.zero with
    | some z => zAlloc2 E t z s
    | none => .bad 0)
  | none => .bad 0
noncomputable def zBox (x : Operand) : ZX := fun E c ty s => xpre s [x] fun s => xbox (s.ev x) s
noncomputable def zBuild (t : TypeId) (parts : Array (Nat × Operand)) : ZX := fun E c ty s => xpre s (parts.toList.map (·.2)) fun s => xval (xbuild E.T t (xparts s parts.toList)) s
noncomputable def zBuildQ (t : TypeId) (parts : Array (Nat × Operand)) : ZQ := fun E s => (xbuild E.T t (xparts s parts.toList)).map .v
def zconsts : List (Nat × Operand) → Bool
  | [] => true
  | (_, .const _) :: r => zconsts r
  | _ => false
noncomputable def zdecP (b : Bool) (t : TypeId) (parts : Array (Nat × Operand)) : ZI := match b with
  | true => .q (zBuildQ t parts)
  | false => .x (zBuild t parts)
noncomputable def zBuildSlice (t : TypeId) (len : Nat) (parts : Array (Nat × Operand)) : ZX := fun E c ty s => xpre s (parts.toList.map (·.2)) fun s => xbuildSlice E.T t len (xparts s parts.toList) s
noncomputable def zStoreT (E : XE) (t : TypeId) (b o : Nat) (y : TVal) (s : XSt) : XO := match s.heap.get b with
  | some (.tcells T l) => (match xif E.T t, storeVals y with
    | some i, some vs => cond (Nat.beq vs.length i.size && Nat.ble (Nat.add o vs.length) l.length) (match s.setBlk b (some (.tcells T (lput l o vs))) with
      | some s' => .val (.v (.tup [])) s'
      | none => .bad 0) (.bad 0)
    | _, _ => .bad 0)
  | _ => xstore E.T t (.v (.ptr b o)) y s
noncomputable def zStore2 (E : XE) (t : TypeId) (x y : TVal) (s : XSt) : XO := match x with
  | .v (.ptr b o) => zStoreT E t b o y s
  | x => xstore E.T t x y s
noncomputable def zStore (t : TypeId) (x y : Operand) : ZX := fun E c ty s => xpre s [y] fun s => zStore2 E t (s.ev x) (s.ev y) s
noncomputable def zMakeFunc (fn : Fn) (fs cs : Array Operand) : ZX := fun E c ty s => xpre s (fs.toList ++ cs.toList) fun s => xval (xmakeFunc fn (xvals s fs.toList) (xvals s cs.toList)) s
noncomputable def zMakeSlice (t : TypeId) (l c : Operand) : ZX := fun E _ ty s => xmakeSlice E.T t (s.ev l) (s.ev c) s
noncomputable def zMakeMap (t : TypeId) (r : Option Operand) : ZX := fun E c ty s => omakeMap E.T t (r.map s.ev) s
noncomputable def zUpd (t : TypeId) (m k v : Operand) : ZX := fun E c ty s => xpre s [k, v] fun s => oupd E.P t (s.ev m) (s.ev k) (s.ev v) s
noncomputable def zEntry (t : TypeId) (m k : Operand) : ZX := fun E c ty s => xpre s [k] fun s => oentry E.P t (s.ev m) (s.ev k) s
noncomputable def zEntryStore (m k v : Operand) : ZX := fun E c ty s => xpre s [v] fun s => oentryStore (s.ev m) (s.ev k) (s.ev v) s
noncomputable def zRange (t : TypeId) (x : Operand) : ZX := fun E c ty s => orange E.T t (s.ev x) s
noncomputable def zNext (x : Operand) : ZX := fun E c ty s => onext (s.ev x) s
noncomputable def zToBytes (a d : TypeId) (x : Operand) : ZX := fun E c ty s => otoBytes E.T a d (s.ev x) s
noncomputable def zPanic2 (x : TVal) (s : XSt) : XO := match x with
  | .v (.iface t v) => .exn (.iface t v) s
  | _ => .bad 0
noncomputable def zPanic (x : Operand) : ZX := fun E c ty s => zPanic2 (s.ev x) s
noncomputable def zExt (E : XE) (f : TVal) (l : Option (List AVal)) : Option AVal := match f, l with
  | .v (.func (.func g) [] []), some l => E.X g l
  | _, _ => none
noncomputable def zCall2 (E : XE) (c : XCaller) (ty : TypeId) (f : TVal) (l : Option (List AVal)) (s : XSt) : XO := match zExt E f l with
  | some r => .val (.v r) s
  | none => xcallv E.T c ty f l s
noncomputable def zCall (f : Operand) (args : List Operand) : ZX := fun E c ty s => xpre s args fun s => zCall2 E c ty (s.ev f) (xvals s args) s
/-- The bytes of a source of append. -/
def zbytes : List AVal → Option (List UInt8)
  | [] => some []
  | v :: r => (match v with
    | .int .u8 (.ofNat n) => (match zbytes r with
      | some l => cond (Nat.blt n 256) (some (UInt8.ofNat n :: l)) none
      | none => none)
    | _ => none)
theorem zbytes_ok : ∀ (l : List AVal) {s : List UInt8}, zbytes l = some s → l = ofBytes s
  | [], s, h => by cases h; rfl
  | v :: r, s, h => by
    simp only [zbytes] at h
    split at h
    · rename_i n
      split at h
      · rename_i l hl
        cases hb : Nat.blt n 256 with
        | false => rw [hb] at h; cases h
        | true =>
          rw [hb] at h
          cases h
          rw [blt_iff] at hb
          have hb : n < 256 := by simpa using hb
          rw [zbytes_ok r hl]
          simp only [ofBytes, List.map_cons, List.cons.injEq, and_true, AVal.int.injEq, true_and]
          have : (UInt8.ofNat n).toNat = n := by simp [UInt8.toNat_ofNat']; omega
          rw [this]; rfl
      · cases h
    · cases h
noncomputable def zSrcB (y : AVal) (s : XSt) : Option (List UInt8) := match y with
  | .str l => some l
  | .sl b o n c => (match asrc s.hp 1 (.sl b o n c) with
    | some (_, cs) => zbytes cs
    | none => none)
  | _ => none
def isStr : AVal → Bool
  | .str _ => true
  | _ => false
noncomputable def zAppB (e : TypeId) (v : AVal) (t : List UInt8) (str : Bool) (s : XSt) : Option XO := match v with
  | .nilsl => cond (Nat.beq t.length 0 || not str) none (some (xnew (.buf e t) (.sl s.next 0 t.length (.rest 0)) s))
  | .sl b 0 n (.rest 0) => (match s.heap.get b with
    | some (.buf e' l) => cond (Nat.beq e e' && Nat.beq n l.length) (match s.setBlk b none with
      | some s1 => some (xnew (.buf e (l ++ t)) (.sl s1.next 0 (Nat.add n t.length) (.rest 0)) s1)
      | none => none) none
    | _ => none)
  | _ => none
def isU8 : TypeDesc → Bool
  | .int .u8 => true
  | _ => false
noncomputable def zAppend2 (E : XE) (t0 t1 : TypeId) (e : TypeId) (vx vy : AVal) (s : XSt) : Option XO := match xds E.T e, xds E.T t1, xif E.T e, zSrcB vy s, slen vx with
  | some de, some d1, some i, some t, some len => (match i.zero with
    | some z => cond ((isU8 de && notInt d1) && ((Nat.beq i.size 1 && Nat.beq z.cells.size i.size) && (Nat.blt 0 i.bytes && Nat.ble (Nat.mul (Nat.add len t.length) i.bytes) 140737488355328))) (zAppB e vx t (isStr vy) s) none
    | none => none)
  | _, _, _, _, _ => none
noncomputable def zAppend3 (E : XE) (t0 t1 : TypeId) (x y : TVal) (s : XSt) : Option XO := match xds E.T t0, x, y with
  | some (.slice e), .v vx, .v vy => zAppend2 E t0 t1 e vx vy s
  | _, _, _ => none
noncomputable def zAppend4 (E : XE) (t0 t1 : TypeId) (x y : TVal) (s : XSt) : XO := match zAppend3 E t0 t1 x y s with
  | some r => r
  | none => xappend E.T t0 t1 x y s
noncomputable def zAppend (t0 t1 : TypeId) (x y : Operand) : ZX := fun E c ty s => zAppend4 E t0 t1 (s.ev x) (s.ev y) s
noncomputable def zkcmp (T : Tr TI) (kt : TypeId) (k k' : AVal) : Option Bool := match xds T kt, k, k' with
  | some (.int _), .int a x, .int b y => cond (Nat.beq (kidx a) (kidx b)) (some (zeq x y)) none
  | some .string, .str x, .str y => some (zbeq x y)
  | _, _, _ => none
theorem zkcmp_ok {P : Program} {T : Tr TI} (hT : TOk P T) {kt : TypeId} {k k' : AVal} {r : Bool} (h : zkcmp T kt k k' = some r) : aeqS P 10000 kt k k' = some r := by
  unfold zkcmp at h
  show aeqS P (9999 + 1) kt k k' = some r
  split at h
  · rename_i hd
    cases hb : Nat.beq (kidx _) (kidx _) with
    | false => rw [hb] at h; cases h
    | true =>
      rw [hb] at h
      cases h
      simp only [aeqS, xds_ok hT hd, kidx_inj hb, if_true, zeq_eq]
  · rename_i hd
    cases h
    simp only [aeqS, xds_ok hT hd, zbeq_eq]
  · cases h
noncomputable def zDelMs3 (b : Nat) (r : Option (List (AVal × AVal))) (s : XSt) : Option XO := match r with
  | some l => some (oblk (some (b, .ms l)) (.v (.tup [])) s)
  | none => none
noncomputable def zDelMs2 (E : XE) (kt : TypeId) (b : Nat) (k : AVal) (o : Option ABlk) (s : XSt) : Option XO := match o with
  | some (.ms l) => cond (zkeyB E.T kt k) (zDelMs3 b (zmsDel (zkcmp E.T kt k) l) s) none
  | _ => none
noncomputable def zDelMs (E : XE) (t : TypeId) (m k : TVal) (s : XSt) : Option XO := match xds E.T t, m, k with
  | some (.map kt _), .v (.map b), .v k => zDelMs2 E kt b k (s.heap.get b) s
  | _, _, _ => none
noncomputable def zDel2 (E : XE) (t : TypeId) (m k : TVal) (s : XSt) : XO := match zDelMs E t m k s with
  | some r => r
  | none => odel E.P t m k s
noncomputable def zDelete (t : TypeId) (m k : Operand) : ZX := fun E c ty s => zDel2 E t (s.ev m) (s.ev k) s
noncomputable def zCopy (t : TypeId) (x y : Operand) : ZX := fun E c ty s => ocopy E.T t (s.ev x) (s.ev y) s
noncomputable def zUnsafeStr2 (E : XE) (pt : TypeId) (x y : TVal) (s : XSt) : XO := match x, y with
  | .v .nilptr, .v (.int .i64 (.ofNat 0)) => .val (.v (.str [])) s
  | .v (.ptr b 0), .v (.int .i64 (.ofNat n)) => (match E.P.underlying pt, s.heap.get b with
    | some (.pointer e), some (.buf e' l) => cond ((Nat.beq e e' && Nat.beq n l.length) && (Nat.beq (E.P.cellsOf e) 1 && (Nat.blt 0 n && Nat.ble n 9223372036854775807))) (match s.setBlk b (some (.cells 1 (ofBytes l) false)) with
      | some s' => .val (.v (.str l)) s'
      | none => .bad 0) (.bad 0)
    | _, _ => .bad 0)
  | _, _ => .bad 0
noncomputable def zUnsafeStr (pt : TypeId) (x y : Operand) : ZX := fun E c ty s => zUnsafeStr2 E pt (s.ev x) (s.ev y) s
noncomputable def zBadX : ZX := fun E c ty s => .bad 0
/-! The table. -/
noncomputable def zdecB (b : Builtin) (args : List Operand) (ts : List TypeId) : ZI := match b, args, ts with
  | .len, [x], t :: _ => .q (zLen t x)
  | .cap, [x], t :: _ => .q (zCap t x)
  | .max, [x, y], _ => .q (zMax x y)
  | .min, [x, y], _ => .q (zMin x y)
  | .unsafeSliceData, [x], _ => .q (zSliceData x)
  | .append, [x, y], [t0, t1] => .x (zAppend t0 t1 x y)
  | .delete, [m, k], [t, _] => .x (zDelete t m k)
  | .copy, [x, y], [t, _] => .x (zCopy t x y)
  | .unsafeString, [x, y], [pt, _] => .x (zUnsafeStr pt x y)
  | _, _, _ => .x zBadX
noncomputable def zdecC (c : Call) : ZI := match c.callee with
  | .value f => .x (zCall f c.args.toList)
  | .builtin b => zdecB b c.args.toList c.argTypes.toList
  | _ => .x zBadX
noncomputable def zdecV (a d : Option TypeDesc) (ta td : TypeId) (x : Operand) : ZI := match a, d with
  | some .string, some (.slice _) => .x (zToBytes ta td x)
  | _, _ => .q (zConv ta td x)
noncomputable def zdecS (t : TypeId) (x : Operand) (lo hi : Option Operand) (mx : Option Operand) : ZI := match mx with
  | none => .q (zSlice t x lo hi)
  | some m => .q (zSlice3 t x lo hi m)
noncomputable def zdecN (x : Operand) (str : Bool) : ZI := match str with
  | true => .x (zNext x)
  | false => .x zBadX
noncomputable def zdec (T : Tr TI) (op : Op) : ZI := match op with
  | .move x => .q (zMove x)
  | .assign x => .q (zMove x)
  | .pick c a b => .q (zPick c a b)
  | .load t x => .q (zLoad t x)
  | .nilCheck x => .q (zNil x)
  | .binOp op t x y _ => .q (zBin op t x y)
  | .unOp op _ x => .q (zUn op x)
  | .makeInterface t x => .q (zIface t x)
  | .slice t x lo hi mx => zdecS t x lo hi mx
  | .fieldAddr t x f => .q (zFieldAddr t x f)
  | .field t x f => .q (zField t x f)
  | .indexAddr t x i => .q (zIndexAddr t x i)
  | .index t x i => .q (zIndex t x i)
  | .extract x i => .q (zExtract x i)
  | .lookup t x k ok => .q (zLookup t x k ok)
  | .convert a d x => zdecV (xds T a) (xds T d) a d x
  | .alloc t => .x (zAlloc t)
  | .box _ x => .x (zBox x)
  | .build t parts => zdecP (zconsts parts.toList) t parts
  | .buildSlice t n parts => .x (zBuildSlice t n parts)
  | .store t x y => .x (zStore t x y)
  | .makeFunc fn fs cs => .x (zMakeFunc fn fs cs)
  | .makeSlice t l c => .x (zMakeSlice t l c)
  | .makeMap t r => .x (zMakeMap t r)
  | .mapUpdate t m k v => .x (zUpd t m k v)
  | .insert t m k v => .x (zUpd t m k v)
  | .mapEntry t m k => .x (zEntry t m k)
  | .entryStore _ m k v => .x (zEntryStore m k v)
  | .range t x => .x (zRange t x)
  | .next x str => zdecN x str
  | .panic x => .x (zPanic x)
  | .call c => zdecC c
  | _ => .x zBadX
end
end Go.Abs

/- The theory of abstract runs, part 4: what a contract says, and that the executor keeps it. Of no program. -/
import Derived.Test.YtelbekgmijpacaaGreatDoorT3
import Derived.Laws.StandIn
import Derived.Laws.Externs
namespace Go.Abs
/-- In a state where what is handed on is no block of the activation's own. -/
noncomputable def xpre (s : XSt) (l : List Operand) (k : XSt → XO) : XO := match s.pubs (xlps s l) with
  | some s1 => k s1
  | none => (.bad 0)
noncomputable def xval (v : Option AVal) (s : XSt) : XO := match v with
  | some v => .val (.v v) s
  | none => (.bad 0)
noncomputable def xmakeFunc (fn : Fn) (fs cs : Option (List AVal)) : Option AVal := match fs, cs with
  | some f, some c => some (.func fn f c)
  | _, _ => none
/-- Any operation. -/
noncomputable def xop (P : Program) (T : Tr TI) (G : Nat → Option (List AVal)) (call : FuncId → List AVal → Nat → Tr ABlk → XC) (op : Op) (ty : TypeId) (s : XSt) : XO := match op with
  | .alloc t => (match xif T t with
    | some i => (match i.zero with
      | some z => xbox (.v (ofZero z)) s
      | none => (.bad 0))
    | none => (.bad 0))
  | .box t x => xpre s [x] fun s => xbox (s.ev x) s
  | .build t parts => xpre s (parts.toList.map (·.2)) fun s => xval (xbuild T t (xparts s parts.toList)) s
  | .buildSlice t len parts => xpre s (parts.toList.map (·.2)) fun s => xbuildSlice T t len (xparts s parts.toList) s
  | .store t x y => xpre s [y] fun s => xstore T t (s.ev x) (s.ev y) s
  | .makeFunc fn fs cs => xpre s (fs.toList ++ cs.toList) fun s => xval (xmakeFunc fn (xvals s fs.toList) (xvals s cs.toList)) s
  | .makeSlice t l c => xmakeSlice T t (s.ev l) (s.ev c) s
  | .panic x => (match s.ev x with
    | .v (.iface t v) => .exn (.iface t v) s
    | _ => (.bad 0))
  | .call c => (match c.callee with
    | .value f => xpre s c.args.toList fun s => xcallv T call ty (s.ev f) (xvals s c.args.toList) s
    | .builtin .append => (match c.args.toList, c.argTypes.toList with
      | [x, y], [t0, t1] => xappend T t0 t1 (s.ev x) (s.ev y) s
      | _, _ => (.bad 0))
    | _ => (match xq P T G op s with
      | some t => .val t s
      | none => (.bad 0)))
  | op => (match xq P T G op s with
    | some t => .val t s
    | none => (.bad 0))
section
variable {P : Program} {T : Tr TI} {G : Nat → Option (List AVal)}
/-- An operation does what is said. -/
def XOk (P : Program) (G : Nat → Option (List AVal)) (o : Oper) (s : XSt) (r : XO) : Prop := match r with
  | .val t s' => ∀ (K : TVal → St → Prop) (Kx : AVal → St → Prop), K t s'.st → AO P G o K Kx s.st
  | .exn v s' => ∀ (K : TVal → St → Prop) (Kx : AVal → St → Prop), Kx v s'.st → AO P G o K Kx s.st
  | .bad n => True
theorem AV.ao {o : Oper} {st : St} {t : TVal} {K : TVal → St → Prop} {Kx : AVal → St → Prop} (h : AV P G o t st) (hK : K t st) : AO P G o K Kx st := AVK.ao ⟨t, hK, h⟩
theorem xpre_ok {o : Oper} {s : XSt} {l : List Operand} {k : XSt → XO} (h : ∀ s1, XOk P G o s1 (k s1)) : XOk P G o s (xpre s l k) := by
  unfold xpre
  split
  · rename_i s1 hs1
    have he := XSt.pubs_eq _ hs1
    have h1 := h s1
    cases hk : k s1 with
    | bad n => exact trivial
    | val t s' =>
      rw [hk] at h1
      intro K Kx hK
      refine AO.pubs (lps s.st l) ?_
      rw [xlps_eq, ← he]
      exact h1 K Kx hK
    | exn v s' =>
      rw [hk] at h1
      intro K Kx hK
      refine AO.pubs (lps s.st l) ?_
      rw [xlps_eq, ← he]
      exact h1 K Kx hK
  · exact trivial
theorem XOk.of {o : Oper} {s : XSt} {r : XO} (h1 : ∀ t s', r = .val t s' → ∀ (K : TVal → St → Prop) (Kx : AVal → St → Prop), K t s'.st → AO P G o K Kx s.st)
    (h2 : ∀ v s', r = .exn v s' → ∀ (K : TVal → St → Prop) (Kx : AVal → St → Prop), Kx v s'.st → AO P G o K Kx s.st) : XOk P G o s r := by
  cases r with
  | bad n => exact trivial
  | val t s' => exact h1 t s' rfl
  | exn v s' => exact h2 v s' rfl
theorem xq_xok (hT : TOk P T) {o : Oper} {s : XSt} : XOk P G o s (match xq P T G o.op s with
    | some t => .val t s
    | none => (.bad 0)) := by
  cases h : xq P T G o.op s with
  | none => exact trivial
  | some t => exact fun K Kx hK => (xq_ok hT h).ao hK
theorem xop_ok (hT : TOk P T) {call : FuncId → List AVal → Nat → Tr ABlk → XC} (hc : CallOk P G call) (o : Oper) (s : XSt) : XOk P G o s (xop P T G call o.op o.type s) := by
  unfold xop
  split
  · rename_i t ho
    split
    · rename_i i hi
      split
      · rename_i z hz
        refine XOk.of (fun t' s' h K Kx hK => ?_) (fun v s' h => (xbox_no h).elim)
        refine AO.alloc ho ?_
        unfold aalloc
        rw [xif_ok hT hi]
        simp only [Option.bind_some, hz]
        exact xbox_ok h hK
      · exact trivial
    · exact trivial
  · rename_i t x ho
    refine xpre_ok fun s => XOk.of (fun t' s' h K Kx hK => ?_) (fun v s' h => (xbox_no h).elim)
    exact AO.box ho (by rw [s.ev_eq]; exact xbox_ok h hK)
  · rename_i t parts ho
    refine xpre_ok fun s => ?_
    unfold xval
    split
    · rename_i v hv
      intro K Kx hK
      exact AVK.ao (AVK.build ho (by rw [xparts_eq]; exact xbuild_ok hT hv hK))
    · exact trivial
  · rename_i t len parts ho
    refine xpre_ok fun s => XOk.of (fun t' s' h K Kx hK => ?_) (fun v s' h => (xbuildSlice_no h).elim)
    exact AO.buildSlice ho (by rw [xparts_eq]; exact xbuildSlice_ok hT h hK)
  · rename_i t x y ho
    refine xpre_ok fun s => XOk.of (fun t' s' h K Kx hK => ?_) (fun v s' h => (xstore_no h).elim)
    exact AO.store ho (by rw [s.ev_eq, s.ev_eq]; exact xstore_ok hT h hK)
  · rename_i fn fs cs ho
    refine xpre_ok fun s => ?_
    unfold xval
    split
    · rename_i v hv
      intro K Kx hK
      refine AVK.ao (AVK.makeFunc ho ?_)
      rw [xvals_eq, xvals_eq]
      unfold xmakeFunc at hv
      split at hv
      · rename_i f c hf hc'
        cases hv
        rw [hf, hc']
        exact hK
      · cases hv
    · exact trivial
  · rename_i t l c ho
    refine XOk.of (fun t' s' h K Kx hK => ?_) (fun v s' h => (xmakeSlice_no h).elim)
    exact AO.makeSlice ho (by rw [s.ev_eq, s.ev_eq]; exact xmakeSlice_ok hT h hK)
  · rename_i x ho
    split
    · rename_i t v hx
      intro K Kx hK
      exact AO.panic ho (by rw [s.ev_eq, hx]; exact hK)
    · exact trivial
  · rename_i c ho
    obtain ⟨callee, args, ts⟩ := c
    split
    · rename_i f hf
      simp only at hf
      subst hf
      refine xpre_ok fun s => XOk.of (fun t' s' h K Kx hK => ?_) (fun v s' h K Kx hK => ?_)
      · exact AO.call ho (by rw [s.ev_eq, xvals_eq]; exact xcallv_ok hT hc (.inl ⟨t', s', h, hK⟩))
      · exact AO.call ho (by rw [s.ev_eq, xvals_eq]; exact xcallv_ok hT hc (.inr ⟨v, s', h, hK⟩))
    · rename_i hb
      simp only at hb
      subst hb
      split
      · rename_i x y t0 t1 hx ht
        simp only at hx ht
        rw [arr2 hx, arr2 ht] at ho
        refine XOk.of (fun t' s' h K Kx hK => ?_) (fun v s' h => (xappend_no h).elim)
        exact AO.append ho (by rw [s.ev_eq, s.ev_eq]; exact xappend_ok hT h hK)
      · exact trivial
    · exact xq_xok hT
  · rename_i op _ _ _ _ _ _ _ _ _
    exact xq_xok hT
/-- What a piece of text comes to. -/
inductive XR where
  | ok (x : AExit) (s : XSt)
  | bad (why : Nat)
/-- The operations of a region, in their order. -/
noncomputable def xops (fx : Op → TypeId → XSt → XO) (ops : Array Oper) (id : Nat) (l : List Oper) : XSt → XR :=
  List.rec (motive := fun _ => XSt → XR) (fun s => .ok .normal s) (fun o r ih s =>
    (fun (run skip : XSt → XR) => match o.guard with
      | none => run s
      | some (j, want) => match ((ops[j]?).bind (·.dst)) with
        | none => .bad id
        | some d => match s.ev (.tmp d) with
          | .v (.bool b) => cond b (cond want (run s) (skip s)) (cond want (skip s) (run s))
          | .v (.tup []) => skip s
          | _ => .bad id)
    (fun s => match fx o.op o.type s with
      | .val t s1 => (match s1.put o.dst t with
        | some s2 => ih s2
        | none => .bad id)
      | .exn v s1 => .ok (.panic v) s1
      | .bad n => .bad (cond (Nat.beq n 0) (id * 1000 + r.length) n))
    (fun s => match s.put o.dst (.v (.tup [])) with
      | some s2 => ih s2
      | none => .bad id)) l
def IsEnd (x : AExit) (s : XSt) (x' : AExit) (st : St) : Prop := x' = x ∧ st = s.st
theorem xops_ok {fx : Op → TypeId → XSt → XO} (hfx : ∀ (o : Oper) (s : XSt), XOk P G o s (fx o.op o.type s)) {ops : Array Oper} {id : Nat} : ∀ (l : List Oper) (k : Nat) {s : XSt} {x : AExit} {s' : XSt}, (∀ j, l[j]? = ops[k + j]?) → xops fx ops id l s = .ok x s' →
    AOps P G ops (IsEnd x s') (List.range' k l.length) s.st
  | [], k, s, x, s', _, h => by cases h; exact AOps.nil ⟨rfl, rfl⟩
  | o :: r, k, s, x, s', hl, h => by
    have h0 : ops[k]? = some o := by simpa using (hl 0).symm
    have hl' : ∀ j, r[j]? = ops[k + 1 + j]? := fun j => by have := hl (j + 1); simpa [Nat.add_assoc, Nat.add_comm 1 j] using this
    have run : (∀ σ lam w a, Rel G σ lam s.st w a → Region.wanted o (yielded ops a.tmps) = true) → (match fx o.op o.type s with
      | .val t s1 => (match s1.put o.dst t with
        | some s2 => xops fx ops id r s2
        | none => .bad id)
      | .exn v s1 => .ok (.panic v) s1
      | .bad n => .bad (cond (Nat.beq n 0) (id * 1000 + r.length) n) : XR) = .ok x s' → AOps P G ops (IsEnd x s') (k :: List.range' (k + 1) r.length) s.st := fun hw h => by
      have hf := hfx o s
      cases hr : fx o.op o.type s with
      | bad n => simp only [hr] at h; cases h
      | exn v s1 =>
        simp only [hr] at h
        rw [hr] at hf
        cases h
        exact AOps.step h0 hw (hf _ _ ⟨rfl, rfl⟩)
      | val t s1 =>
        simp only [hr] at h
        rw [hr] at hf
        split at h
        · rename_i s2 hs2
          refine AOps.step h0 hw (hf _ _ ?_)
          rw [← XSt.put_eq hs2]
          exact xops_ok hfx r (k + 1) hl' h
        · cases h
    have skip : (∀ σ lam w a, Rel G σ lam s.st w a → Region.wanted o (yielded ops a.tmps) = false) → (match s.put o.dst (.v (.tup [])) with
      | some s2 => xops fx ops id r s2
      | none => .bad id : XR) = .ok x s' → AOps P G ops (IsEnd x s') (k :: List.range' (k + 1) r.length) s.st := fun hw h => by
      split at h
      · rename_i s2 hs2
        refine AOps.pass h0 hw ?_
        rw [← XSt.put_eq hs2]
        exact xops_ok hfx r (k + 1) hl' h
      · cases h
    simp only [List.length_cons, List.range'_succ]
    have h' : (match o.guard with
      | none => (match fx o.op o.type s with
        | .val t s1 => (match s1.put o.dst t with
          | some s2 => xops fx ops id r s2
          | none => .bad id)
        | .exn v s1 => .ok (.panic v) s1
        | .bad n => .bad (cond (Nat.beq n 0) (id * 1000 + r.length) n))
      | some (j, want) => match ((ops[j]?).bind (·.dst)) with
        | none => .bad id
        | some d => match s.ev (.tmp d) with
          | .v (.bool b) => cond b (cond want (match fx o.op o.type s with
        | .val t s1 => (match s1.put o.dst t with
          | some s2 => xops fx ops id r s2
          | none => .bad id)
        | .exn v s1 => .ok (.panic v) s1
        | .bad n => .bad (cond (Nat.beq n 0) (id * 1000 + r.length) n)) (match s.put o.dst (.v (.tup [])) with
      | some s2 => xops fx ops id r s2
      | none => .bad id)) (cond want (match s.put o.dst (.v (.tup [])) with
      | some s2 => xops fx ops id r s2
      | none => .bad id) (match fx o.op o.type s with
        | .val t s1 => (match s1.put o.dst t with
          | some s2 => xops fx ops id r s2
          | none => .bad id)
        | .exn v s1 => .ok (.panic v) s1
        | .bad n => .bad (cond (Nat.beq n 0) (id * 1000 + r.length) n)))
          | .v (.tup []) => (match s.put o.dst (.v (.tup [])) with
      | some s2 => xops fx ops id r s2
      | none => .bad id)
          | _ => .bad id : XR) = .ok x s' := h
    split at h'
    · rename_i hg
      exact run (fun σ lam w a hr => wanted_none hg _) h'
    · rename_i j want hg
      split at h'
      · cases h'
      · rename_i d hd
        have hy : ayielded ops s.st j = some (s.ev (.tmp d)) := by simp [ayielded, hd, s.ev_eq]
        split at h'
        · rename_i b hb
          rw [hb] at hy
          cases b <;> cases want <;> simp only [cond_true, cond_false] at h'
          · exact run (fun σ lam w a hr => by simp [Region.wanted, hg, yielded_bool hr hy]) h'
          · exact skip (fun σ lam w a hr => by simp [Region.wanted, hg, yielded_bool hr hy]) h'
          · exact skip (fun σ lam w a hr => by simp [Region.wanted, hg, yielded_bool hr hy]) h'
          · exact run (fun σ lam w a hr => by simp [Region.wanted, hg, yielded_bool hr hy]) h'
        · rename_i hb
          rw [hb] at hy
          exact skip (fun σ lam w a hr => by simp [Region.wanted, hg, yielded_skip hr hy]) h'
        · cases h'
end
end Go.Abs
namespace Go.Abs
/-- Round after round. -/
noncomputable def xloop (body : XSt → XR) (n : Nat) : XSt → XR :=
  Nat.rec (motive := fun _ => XSt → XR) (fun _ => .bad 7) (fun _ ih s => match body s with
    | .ok .normal s1 => ih s1
    | r => r) n
noncomputable def xcode (fx : Op → TypeId → XSt → XO) (dr : Nat → Array Oper → XSt → XR) (rounds : Nat) (c : Code) : XSt → XR :=
  Code.rec (motive := fun _ => XSt → XR)
    (fun s => .ok .normal s)
    (fun id ops draw s => cond draw (dr id ops s) (xops fx ops id ops.toList s))
    (fun _ _ a b s => match a s with
      | .ok .normal s1 => b s1
      | r => r)
    (fun c _ _ a b s => match s.ev c with
      | .v (.bool t) => cond t (a s) (b s)
      | _ => .bad 5)
    (fun id _ a s => match a s with
      | .ok (.exit i) s1 => cond (Nat.beq i id) (.ok .normal s1) (.ok (.exit i) s1)
      | r => r)
    (fun _ a s => xloop a rounds s)
    (fun _ _ _ _ _ _ _ => .bad 1)
    (fun id s => .ok (.exit id) s)
    (fun _ _ _ => .bad 2)
    (fun _ s => .ok .normal s)
    (fun l s => .ok (.goto l) s)
    (fun s => .ok .ret s)
    (fun _ _ => .bad 3) c
section
variable {P : Program} {T : Tr TI} {G : Nat → Option (List AVal)}
theorem xloop_ok {c : Code} {body : XSt → XR} (hb : ∀ {s : XSt} {x : AExit} {s' : XSt}, body s = .ok x s' → AW P G c (IsEnd x s') s.st) : ∀ (n : Nat) {s : XSt} {x : AExit} {s' : XSt}, xloop body n s = .ok x s' → AL P G c (IsEnd x s') s.st
  | 0, s, x, s', h => by cases h
  | n + 1, s, x, s', h => by
    have h' : (match body s with
      | .ok .normal s1 => xloop body n s1
      | r => r) = .ok x s' := h
    refine AL.round ?_
    split at h'
    · rename_i s1 hs1
      refine AW.mono (hb hs1) ?_
      rintro y t ⟨rfl, rfl⟩
      exact xloop_ok hb n h'
    · rename_i r hr
      refine AW.mono (hb h') ?_
      rintro y t ⟨rfl, rfl⟩
      cases y with
      | normal => exact absurd h' (hr s')
      | _ => exact ⟨rfl, rfl⟩
theorem xcode_ok {fx : Op → TypeId → XSt → XO} {dr : Nat → Array Oper → XSt → XR} {rounds : Nat} (hfx : ∀ (o : Oper) (s : XSt), XOk P G o s (fx o.op o.type s))
    (hdr : ∀ id ops s x s', dr id ops s = .ok x s' → AW P G (.region id ops true) (IsEnd x s') s.st) : ∀ (c : Code) {s : XSt} {x : AExit} {s' : XSt}, xcode fx dr rounds c s = .ok x s' → AW P G c (IsEnd x s') s.st
  | .skip, s, x, s', h => by cases h; exact AW.skip ⟨rfl, rfl⟩
  | .region id ops draw, s, x, s', h => by
    cases draw with
    | true => exact hdr id ops s x s' h
    | false =>
      have h' : xops fx ops id ops.toList s = .ok x s' := h
      refine AW.region ?_
      have := xops_ok (P := P) (G := G) hfx (ops := ops) ops.toList 0 (by simp) h'
      rw [List.range_eq_range']
      simpa using this
  | .seq a b, s, x, s', h => by
    have h' : (match xcode fx dr rounds a s with
      | .ok .normal s1 => xcode fx dr rounds b s1
      | r => r) = .ok x s' := h
    refine AW.seq ?_
    split at h'
    · rename_i s1 hs1
      refine AW.mono (xcode_ok hfx hdr a hs1) ?_
      rintro y t ⟨rfl, rfl⟩
      exact xcode_ok hfx hdr b h'
    · rename_i r hr
      refine AW.mono (xcode_ok hfx hdr a h') ?_
      rintro y t ⟨rfl, rfl⟩
      cases y with
      | normal => exact absurd h' (hr s')
      | _ => exact ⟨rfl, rfl⟩
  | .cond c a b, s, x, s', h => by
    have h' : (match s.ev c with
      | .v (.bool t) => cond t (xcode fx dr rounds a s) (xcode fx dr rounds b s)
      | _ => .bad 5) = .ok x s' := h
    split at h'
    · rename_i t ht
      refine AW.cond (t := t) (by rw [s.ev_eq]; exact ht) ?_
      cases t with
      | true => exact xcode_ok hfx hdr a h'
      | false => exact xcode_ok hfx hdr b h'
    · cases h'
  | .block id c, s, x, s', h => by
    have h' : (match xcode fx dr rounds c s with
      | .ok (.exit i) s1 => cond (Nat.beq i id) (.ok .normal s1) (.ok (.exit i) s1)
      | r => r : XR) = .ok x s' := h
    refine AW.block ?_
    split at h'
    · rename_i i s1 hs1
      refine AW.mono (xcode_ok hfx hdr c hs1) ?_
      rintro y t ⟨rfl, rfl⟩
      show if i = id then _ else _
      cases hb : Nat.beq i id with
      | true =>
        rw [hb] at h'
        cases h'
        rw [if_pos (Nat.eq_of_beq_eq_true hb)]
        exact ⟨rfl, rfl⟩
      | false =>
        rw [hb] at h'
        cases h'
        rw [if_neg (Nat.ne_of_beq_eq_false hb)]
        exact ⟨rfl, rfl⟩
    · rename_i r hr
      refine AW.mono (xcode_ok hfx hdr c h') ?_
      rintro y t ⟨rfl, rfl⟩
      cases y with
      | exit i => exact absurd h' (hr i s')
      | _ => exact ⟨rfl, rfl⟩
  | .loop c, s, x, s', h => AW.loop (xloop_ok (fun h => xcode_ok hfx hdr c h) rounds h)
  | .rangeFunc _ _ _ _, s, x, s', h => by cases h
  | .exit id, s, x, s', h => by cases h; exact AW.exit ⟨rfl, rfl⟩
  | .scope _, s, x, s', h => by cases h
  | .label l, s, x, s', h => by cases h; exact AW.label ⟨rfl, rfl⟩
  | .goto l, s, x, s', h => by cases h; exact AW.goto ⟨rfl, rfl⟩
  | .ret, s, x, s', h => by cases h; exact AW.ret ⟨rfl, rfl⟩
  | .refuse _, s, x, s', h => by cases h
/-- What a call begins with. -/
noncomputable def xfill (l : List AVal) : Nat → Tr TVal → Tr TVal :=
  List.rec (motive := fun _ => Nat → Tr TVal → Tr TVal) (fun _ t => t) (fun v _ ih i t => ih (Nat.add i 1) (t.set 24 i (some (.v v)))) l
theorem xfill_get : ∀ (l : List AVal) (i : Nat) (t : Tr TVal) (j : Nat), i + l.length + 1 < 2 ^ 24 → (xfill l i t).get j = if i ≤ j ∧ j < i + l.length then (l[j - i]?).map .v else t.get j
  | [], i, t, j, h => by
    rw [if_neg (fun hh => by have := hh.1; have := hh.2; simp at this; omega)]
    rfl
  | v :: l, i, t, j, h => by
    show (xfill l (i + 1) (t.set 24 i (some (.v v)))).get j = _
    simp only [List.length_cons] at h ⊢
    rw [xfill_get l (i + 1) _ j (by omega), Tr.get_set _ _ _ _ (by omega)]
    by_cases h1 : i + 1 ≤ j ∧ j < i + 1 + l.length
    · rw [if_pos h1, if_pos (by omega)]
      have : j - i = (j - (i + 1)) + 1 := by omega
      rw [this, List.getElem?_cons_succ]
    · rw [if_neg h1]
      by_cases h2 : j = i
      · subst h2
        simp
      · rw [if_neg h2, if_neg (by omega)]
noncomputable def xstart (args : List AVal) (n next : Nat) (heap : Tr ABlk) : XSt := { n := n, env := xfill args 0 .nil, lc := 0, loc := .nil, next := next, heap := heap }
/-- A beginning of which the free slots are not known. -/
def startU (args : List AVal) (n : Nat) (H : AHeap) : St := { env := args.map .v ++ List.replicate (n - args.length) (.v .undef), loc := [], heap := H }
theorem ACalls.bodyU {f : FuncId} {fn : Func} {c : Code} {args : List AVal} {H : AHeap} {R : AEnd → AHeap → Prop} (hf : P.funcs[f]? = some fn) (hb : fn.body = some c)
    (h : AW P G c (bodyK P G fn.results.toList R) (startU args fn.ntmps H)) : ACalls P G f args H R := by
  refine ACalls.bodyW hf hb fun σ lam w a hr => wp_mono (h σ lam w a ⟨hr.heap, hr.loc, ⟨?_, fun i t V ht hV => ?_, fun i k o hi => ?_⟩, hr.defers⟩) fun _ _ _ ⟨σ', lam', x, s, hK, q⟩ => ⟨σ', lam', x, s, hK, ⟨q.ex, q.rel, q.agree, q.next, q.len, q.same, q.evo⟩⟩
  · have := hr.env.1
    simpa [start, startU] using this
  · simp only [startU] at ht
    rcases Nat.lt_or_ge i args.length with hi | hi
    · rw [List.getElem?_append_left (by simpa using hi)] at ht
      exact hr.env.2.1 i t V (by simp only [start]; rw [List.getElem?_append_left (by simpa using hi)]; exact ht) hV
    · rw [List.getElem?_append_right (by simpa using hi), List.getElem?_replicate] at ht
      split at ht
      · cases ht; exact .undef _
      · cases ht
  · simp only [startU] at hi
    rcases Nat.lt_or_ge i args.length with hi' | hi'
    · rw [List.getElem?_append_left (by simpa using hi'), List.getElem?_map] at hi
      cases hx : args[i]? with
      | none => rw [hx] at hi; cases hi
      | some x => rw [hx] at hi; cases hi
    · rw [List.getElem?_append_right (by simpa using hi'), List.getElem?_replicate] at hi
      split at hi <;> cases hi
theorem xstart_eq {args : List AVal} {n next : Nat} {heap : Tr ABlk} (h1 : args.length ≤ n) (h2 : n < 16777214) : (xstart args n next heap).st = startU args n { next := next, get := heap.get } := by
  have : tl n (xfill args 0 .nil) (.v .undef) = args.map .v ++ List.replicate (n - args.length) (.v .undef) := by
    apply List.ext_getElem?
    intro j
    rw [tl_get, xfill_get _ _ _ _ (by simp; omega)]
    by_cases hj : j < n
    · rw [if_pos hj]
      by_cases hj2 : j < args.length
      · rw [if_pos (by omega), List.getElem?_append_left (by simpa using hj2)]
        simp [hj2]
      · rw [if_neg (by omega), List.getElem?_append_right (by simp; omega), List.getElem?_replicate, if_pos (by simp; omega), Tr.get_nil]
        rfl
    · rw [if_neg hj, List.getElem?_eq_none (by simp; omega)]
  show St.mk (tl n (xfill args 0 .nil) (.v .undef)) [] _ = _
  rw [this]
  rfl
noncomputable def xresult (T : Tr TI) (G : Nat → Option (List AVal)) (s : XSt) : ResultVar → Option AVal
  | .tmp t => (match s.ev (.tmp t) with
    | .v v => some v
    | _ => none)
  | .cell a t => (match T.get t, s.at G (s.ev (.tmp a)) with
    | some ti, some (l, o) => cond (isAggD ti.d) (cond (Nat.ble (Nat.add o ti.i.size) l.length) (some (.agg ((l.drop o).take ti.i.size))) none) l[o]?
    | _, _ => none)
theorem xresult_ok (hT : TOk P T) {s : XSt} {r : ResultVar} {v : AVal} (h : xresult T G s r = some v) : aresult P G s.st r = some v := by
  cases r with
  | tmp t =>
    simp only [xresult] at h
    simp only [aresult, s.ev_eq]
    exact h
  | cell a t =>
    simp only [xresult] at h
    split at h
    · rename_i ti l o hti ha
      obtain ⟨h1, h2⟩ := hT _ _ hti
      have hat := XSt.at_eq (G := G) s (s.ev (.tmp a))
      rw [ha] at hat
      simp only [aresult, h1, h2, s.ev_eq, St.rds, St.rd, hat, Option.bind_some]
      cases hd : isAggD ti.d with
      | true =>
        rw [hd, cond_true] at h
        cases hb : Nat.ble (Nat.add o ti.i.size) l.length with
        | false => rw [hb] at h; cases h
        | true =>
          rw [hb, cond_true] at h
          have hle : o + ti.i.size ≤ l.length := Nat.le_of_ble_eq_true hb
          rw [if_pos rfl, if_pos hle]
          exact h
      | false =>
        rw [hd, cond_false] at h
        simpa using h
    · cases h
noncomputable def xresults (T : Tr TI) (G : Nat → Option (List AVal)) (s : XSt) : List ResultVar → Option (List AVal)
  | [] => some []
  | r :: l => (match xresult T G s r, xresults T G s l with
    | some v, some vs => some (v :: vs)
    | _, _ => none)
theorem xresults_ok (hT : TOk P T) {s : XSt} : ∀ (rs : List ResultVar) {l : List AVal}, xresults T G s rs = some l → aresults P G s.st rs = some l
  | [], l, h => h
  | r :: rs, l, h => by
    simp only [xresults] at h
    split at h
    · rename_i v vs h1 h2
      cases h
      simp only [aresults, xresult_ok hT h1, xresults_ok hT rs h2]
    · cases h
noncomputable def xbody (fx : Op → TypeId → XSt → XO) (dr : Nat → Array Oper → XSt → XR) (T : Tr TI) (G : Nat → Option (List AVal)) (rounds : Nat) (f : FuncId) (fn : Func) (args : List AVal) (next : Nat) (heap : Tr ABlk) : XC := match fn.body with
  | none => .bad (f * 1000000000)
  | some c => cond (Nat.ble args.length fn.ntmps && Nat.blt fn.ntmps 16777214) (match xcode fx dr rounds c (xstart args fn.ntmps next heap) with
    | .ok .normal s => (match xresults T G s fn.results.toList with
      | some l => .ret (oneOf l) s.next s.heap
      | none => .bad (f * 1000000000 + 8))
    | .ok .ret s => (match xresults T G s fn.results.toList with
      | some l => .ret (oneOf l) s.next s.heap
      | none => .bad (f * 1000000000 + 8))
    | .ok (.panic v) s => .exn v s.next s.heap
    | .ok _ _ => .bad (f * 1000000000 + 9)
    | .bad n => .bad (cond (Nat.blt n 1000000000) (f * 1000000000 + n) n)) (.bad 10)
noncomputable def xrun (P : Program) (T : Tr TI) (G : Nat → Option (List AVal)) (F : Tr Func) (dr : (FuncId → List AVal → Nat → Tr ABlk → XC) → Nat → Array Oper → XSt → XR) (rounds : Nat) (depth : Nat) : FuncId → List AVal → Nat → Tr ABlk → XC :=
  Nat.rec (motive := fun _ => FuncId → List AVal → Nat → Tr ABlk → XC) (fun _ _ _ _ => .bad 11) (fun _ ih f args next heap => match F.get f with
    | some fn => xbody (xop P T G ih) (dr ih) T G rounds f fn args next heap
    | none => .bad (f * 1000000000 + 4)) depth
def FOk (P : Program) (F : Tr Func) : Prop := ∀ f fn, F.get f = some fn → P.funcs[f]? = some fn ∧ plainFn P f = true
def DrOk (P : Program) (G : Nat → Option (List AVal)) (dr : (FuncId → List AVal → Nat → Tr ABlk → XC) → Nat → Array Oper → XSt → XR) : Prop :=
  ∀ call, CallOk P G call → ∀ id ops s x s', dr call id ops s = .ok x s' → AW P G (.region id ops true) (IsEnd x s') s.st
theorem xbody_ok (hT : TOk P T) {fx : Op → TypeId → XSt → XO} {dr : Nat → Array Oper → XSt → XR} {rounds : Nat} (hfx : ∀ (o : Oper) (s : XSt), XOk P G o s (fx o.op o.type s))
    (hdr : ∀ id ops s x s', dr id ops s = .ok x s' → AW P G (.region id ops true) (IsEnd x s') s.st) {f : FuncId} {fn : Func} (hf : P.funcs[f]? = some fn) {args : List AVal} {n : Nat} {hp : Tr ABlk} :
    (∀ v n' h', xbody fx dr T G rounds f fn args n hp = .ret v n' h' → ACalls P G f args { next := n, get := hp.get } (fun e H' => e = .ret v ∧ H' = { next := n', get := h'.get })) ∧
    (∀ v n' h', xbody fx dr T G rounds f fn args n hp = .exn v n' h' → ACalls P G f args { next := n, get := hp.get } (fun e H' => e = .panic v ∧ H' = { next := n', get := h'.get })) := by
  have key : ∀ (c : Code), fn.body = some c → (Nat.ble args.length fn.ntmps && Nat.blt fn.ntmps 16777214) = true → ∀ x s', xcode fx dr rounds c (xstart args fn.ntmps n hp) = .ok x s' → ∀ R, (bodyK P G fn.results.toList R x s'.st) → ACalls P G f args { next := n, get := hp.get } R := fun c hc hb x s' hx R hR => by
    simp only [Bool.and_eq_true, blt_iff, decide_eq_true_eq] at hb
    have h1 := Nat.le_of_ble_eq_true hb.1
    refine ACalls.bodyU hf hc ?_
    rw [← xstart_eq h1 hb.2]
    refine AW.mono (xcode_ok hfx hdr c hx) ?_
    rintro y t ⟨rfl, rfl⟩
    exact hR
  have res : ∀ s' l R, xresults T G s' fn.results.toList = some l → R (.ret (oneOf l)) s'.st.heap → bodyK P G fn.results.toList R .normal s'.st ∧ bodyK P G fn.results.toList R .ret s'.st := fun s' l R hl hR => by
    have := xresults_ok (P := P) hT _ hl
    simp only [bodyK, this]
    exact ⟨hR, hR⟩
  constructor
  · intro v n' h' h
    unfold xbody at h
    split at h
    · cases h
    · rename_i c hc
      cases hb : (Nat.ble args.length fn.ntmps && Nat.blt fn.ntmps 16777214) with
      | false => rw [hb] at h; cases h
      | true =>
        rw [hb, cond_true] at h
        split at h
        · rename_i s' hs'
          split at h
          · rename_i l hl
            cases h
            exact key c hc hb _ _ hs' _ (res s' l _ hl ⟨rfl, rfl⟩).1
          · cases h
        · rename_i s' hs'
          split at h
          · rename_i l hl
            cases h
            exact key c hc hb _ _ hs' _ (res s' l _ hl ⟨rfl, rfl⟩).2
          · cases h
        · cases h
        · cases h
        · cases h
  · intro v n' h' h
    unfold xbody at h
    split at h
    · cases h
    · rename_i c hc
      cases hb : (Nat.ble args.length fn.ntmps && Nat.blt fn.ntmps 16777214) with
      | false => rw [hb] at h; cases h
      | true =>
        rw [hb, cond_true] at h
        split at h
        · split at h <;> cases h
        · split at h <;> cases h
        · rename_i v' s' hs'
          cases h
          exact key c hc hb _ _ hs' _ ⟨rfl, rfl⟩
        · cases h
        · cases h
theorem xrun_ok (hT : TOk P T) {F : Tr Func} (hF : FOk P F) {dr : (FuncId → List AVal → Nat → Tr ABlk → XC) → Nat → Array Oper → XSt → XR} (hdr : DrOk P G dr) (rounds : Nat) : ∀ depth : Nat, CallOk P G (xrun P T G F dr rounds depth)
  | 0 => fun g args n h => ⟨fun v n' h' e => (by cases e), fun v n' h' e => (by cases e)⟩
  | d + 1 => fun g args n h => by
    have ih := xrun_ok hT hF hdr rounds d
    have e : xrun P T G F dr rounds (d + 1) g args n h = (match F.get g with
      | some fn => xbody (xop P T G (xrun P T G F dr rounds d)) (dr (xrun P T G F dr rounds d)) T G rounds g fn args n h
      | none => .bad (g * 1000000000 + 4)) := rfl
    cases hg : F.get g with
    | none =>
      rw [hg] at e
      exact ⟨fun v n' h' e' => (by rw [e] at e'; cases e'), fun v n' h' e' => (by rw [e] at e'; cases e')⟩
    | some fn =>
      rw [hg] at e
      obtain ⟨h1, h2⟩ := hF _ _ hg
      have hb := xbody_ok (P := P) (G := G) hT (fun o s => xop_ok hT ih o s) (hdr _ ih) (rounds := rounds) h1 (args := args) (n := n) (hp := h)
      exact ⟨fun v n' h' e' => ⟨h2, hb.1 v n' h' (by rw [← e']; exact e.symm)⟩, fun v n' h' e' => ⟨h2, hb.2 v n' h' (by rw [← e']; exact e.symm)⟩⟩
end
end Go.Abs
namespace Go.Abs
/-- A table of a function's values. -/
noncomputable def Tr.tab {α : Type} (f : Nat → Option α) (d : Nat) : Nat → Nat → Tr α :=
  Nat.rec (motive := fun _ => Nat → Nat → Tr α) (fun _ _ => .nil) (fun _ ih m b => .node (ih (Nat.mul 2 m) (Nat.add b m)) (f b) (ih (Nat.mul 2 m) (Nat.add b (Nat.mul 2 m)))) d
theorem Tr.getP_tab {α : Type} (f : Nat → Option α) : ∀ (d e m b n : Nat) (x : α), d ≤ e → Tr.getP (way e n) (Tr.tab f d m b) = some x → f (b + m * n) = some x
  | 0, e, m, b, n, x, hd, h => by
    have h' : Tr.getP (way e n) (.nil : Tr α) = some x := h
    rw [Tr.getP_nil] at h'
    cases h'
  | d + 1, 0, m, b, n, x, hd, h => by omega
  | d + 1, e + 1, m, b, n, x, hd, h => by
    have h' : Tr.getP (way (e + 1) n) (.node (Tr.tab f d (2 * m) (b + m)) (f b) (Tr.tab f d (2 * m) (b + 2 * m))) = some x := h
    rw [way_succ] at h'
    split at h'
    · rename_i h0
      subst h0
      have h2 : f b = some x := h'
      simpa using h2
    · split at h'
      · rename_i h0 h1
        have := Tr.getP_tab f d e _ _ _ _ (by omega) (show Tr.getP (way e (n / 2)) (Tr.tab f d (2 * m) (b + m)) = some x from h')
        have e : b + m + 2 * m * (n / 2) = b + m * n := by
          obtain ⟨k, rfl⟩ : ∃ k, n = 2 * k + 1 := ⟨n / 2, by omega⟩
          have : (2 * k + 1) / 2 = k := by omega
          rw [this, Nat.mul_add, Nat.mul_one, Nat.mul_comm 2 m, Nat.mul_assoc]
          omega
        rw [e] at this
        exact this
      · rename_i h0 h1
        have := Tr.getP_tab f d e _ _ _ _ (by omega) (show Tr.getP (way e (n / 2 - 1)) (Tr.tab f d (2 * m) (b + 2 * m)) = some x from h')
        have e : b + 2 * m + 2 * m * (n / 2 - 1) = b + m * n := by
          obtain ⟨k, rfl⟩ : ∃ k, n = 2 * k + 2 := ⟨n / 2 - 1, by omega⟩
          have : (2 * k + 2) / 2 - 1 = k := by omega
          rw [this, Nat.mul_add, Nat.mul_comm 2 m, Nat.mul_assoc, Nat.mul_comm m 2]
          omega
        rw [e] at this
        exact this
theorem Tr.get_tab {α : Type} (f : Nat → Option α) (n : Nat) (x : α) (h : (Tr.tab f 12 1 0).get n = some x) : f n = some x := by
  have := Tr.getP_tab f 12 24 1 0 n x (by omega) h
  simpa using this
noncomputable def ti (P : Program) (t : Nat) : Option TI := match P.underlying t, P.info? t with
  | some d, some i => some ⟨d, i⟩
  | _, _ => none
noncomputable def tis (P : Program) : Tr TI := Tr.tab (ti P) 12 1 0
theorem tis_ok (P : Program) : TOk P (tis P) := fun t x h => by
  have h1 := Tr.get_tab (ti P) t x h
  unfold ti at h1
  split at h1
  · rename_i d i hd hi
    cases h1
    exact ⟨hd, hi⟩
  · cases h1
noncomputable def tf (P : Program) (f : Nat) : Option Func := match P.funcs[f]? with
  | some fn => cond (plainFn P f) (some fn) none
  | none => none
noncomputable def tfs (P : Program) : Tr Func := Tr.tab (tf P) 12 1 0
theorem tfs_ok (P : Program) : FOk P (tfs P) := fun t x h => by
  have h1 := Tr.get_tab (tf P) t x h
  unfold tf at h1
  split at h1
  · rename_i fn hfn
    cases hb : plainFn P t with
    | false => rw [hb] at h1; cases h1
    | true =>
      rw [hb] at h1
      cases h1
      exact ⟨hfn, rfl⟩
  · cases h1
end Go.Abs
namespace Go.Abs
section
variable {P : Program} {T : Tr TI} {G : Nat → Option (List AVal)} {s : XSt}
noncomputable def qbin (P : Program) (T : Tr TI) (op : BinOp) (t : TypeId) (x y : TVal) : Option TVal := match x, y with
  | .v v, .v u => (match anileq P t v u with
    | some b => (match op with
      | .eql => some (.v (.bool b))
      | .neq => some (.v (.bool (!b)))
      | _ => none)
    | none => (xbin P T op t v u).map .v)
  | _, _ => none
theorem qbin_ok (hT : TOk P T) {o : Oper} {op : BinOp} {t t' : TypeId} {x y : Operand} {r : TVal} (ho : o.op = .binOp op t x y t') (h : qbin P T op t (s.ev x) (s.ev y) = some r) : AVK P G o (fun r' _ => r' = r) s.st := by
  unfold qbin at h
  split at h
  · rename_i v u hx hy
    have hx' : s.st.ev x = .v v := by rw [s.ev_eq]; exact hx
    have hy' : s.st.ev y = .v u := by rw [s.ev_eq]; exact hy
    split at h
    · rename_i b hb
      split at h
      · cases h; exact AVK.nilEq ho hx' hy' hb (.inl ⟨rfl, rfl⟩)
      · cases h; exact AVK.nilEq ho hx' hy' hb (.inr ⟨rfl, rfl⟩)
      · cases h
    · obtain ⟨r', hr, rfl⟩ := Option.map_eq_some_iff.1 h
      exact xbin_ok hT ho hx' hy' hr rfl
  · cases h
noncomputable def qlookup (P : Program) (t : TypeId) (m k : TVal) (ok : Bool) (s : XSt) : Option TVal := match m, k with
  | .v m, .v k => (alookup P t m k ok s.st).map .v
  | _, _ => none
theorem qlookup_ok {o : Oper} {t : TypeId} {x k : Operand} {ok : Bool} {r : TVal} (ho : o.op = .lookup t x k ok) (h : qlookup P t (s.ev x) (s.ev k) ok s = some r) : AVK P G o (fun r' _ => r' = r) s.st := by
  unfold qlookup at h
  split at h
  · rename_i m k hx hk
    obtain ⟨r', hr, rfl⟩ := Option.map_eq_some_iff.1 h
    exact AVK.lookup ho (by rw [s.ev_eq]; exact hx) (by rw [s.ev_eq]; exact hk) hr rfl
  · cases h
noncomputable def qconv (P : Program) (T : Tr TI) (a d : TypeId) (x : TVal) (s : XSt) : Option TVal := match xds T a, xds T d, x with
  | some (.slice e), some .string, .v v => (match xds T e with
    | some (.int .u8) => (atext s.st v).map fun l => .v (.str l)
    | _ => none)
  | _, _, _ => (xconv T a d x).map .v
theorem qconv_ok (hT : TOk P T) {o : Oper} {a d : TypeId} {x : Operand} {r : TVal} (ho : o.op = .convert a d x) (h : qconv P T a d (s.ev x) s = some r) : AVK P G o (fun r' _ => r' = r) s.st := by
  unfold qconv at h
  split at h
  · rename_i e v ha hd hx
    split at h
    · rename_i he
      obtain ⟨l, hl, rfl⟩ := Option.map_eq_some_iff.1 h
      exact AVK.toText ho (xds_ok hT ha) (xds_ok hT he) (xds_ok hT hd) (by rw [s.ev_eq]; exact hx) hl rfl
    · cases h
  · obtain ⟨r', hr, rfl⟩ := Option.map_eq_some_iff.1 h
    exact AVK.conv ho (by rw [s.ev_eq]; exact xconv_ok hT hr rfl)
end
end Go.Abs
namespace Go.Abs
section
variable {P : Program} {T : Tr TI} {G : Nat → Option (List AVal)} {s : XSt}
/-- A block is written over. -/
noncomputable def oblk (r : Option (Nat × ABlk)) (t : TVal) (s : XSt) : XO := match r with
  | some (b, nb) => (match s.setBlk b (some nb) with
    | some s' => .val t s'
    | none => .bad 0)
  | none => .bad 0
theorem oblk_ok {o : Oper} {r : Option (Nat × ABlk)} {t : TVal} (h : ∀ b nb, r = some (b, nb) → ∀ (K : TVal → St → Prop) (Kx : AVal → St → Prop), K t { s.st with heap := s.st.heap.set b nb } → AO P G o K Kx s.st) : XOk P G o s (oblk r t s) := by
  unfold oblk
  split
  · rename_i b nb
    split
    · rename_i s' hs'
      intro K Kx hK
      rw [XSt.setBlk_eq hs'] at hK
      exact h b nb rfl K Kx hK
    · exact trivial
  · exact trivial
noncomputable def oupd (P : Program) (t : TypeId) (m k v : TVal) (s : XSt) : XO := match m, k, v with
  | .v m, .v k, .v v => oblk (aupd P t m k v s.st) (.v (.tup [])) s
  | _, _, _ => .bad 0
theorem oupd_ok {o : Oper} {t : TypeId} {m k v : Operand} (ho : o.op = .mapUpdate t m k v ∨ o.op = .insert t m k v) : XOk P G o s (oupd P t (s.ev m) (s.ev k) (s.ev v) s) := by
  unfold oupd
  split
  · rename_i m' k' v' hm hk hv
    exact oblk_ok fun b nb hr K Kx hK => AO.mapUpdate ho (by rw [s.ev_eq]; exact hm) (by rw [s.ev_eq]; exact hk) (by rw [s.ev_eq]; exact hv) hr hK
  · exact trivial
noncomputable def oentry (P : Program) (t : TypeId) (m k : TVal) (s : XSt) : XO := match m, k with
  | .v m, .v k => (match aentry P t m k s.st with
    | some (r, b, nb) => oblk (some (b, nb)) (.v r) s
    | none => .bad 0)
  | _, _ => .bad 0
theorem oentry_ok {o : Oper} {t : TypeId} {m k : Operand} (ho : o.op = .mapEntry t m k) : XOk P G o s (oentry P t (s.ev m) (s.ev k) s) := by
  unfold oentry
  split
  · rename_i m' k' hm hk
    split
    · rename_i r b nb hr
      refine oblk_ok fun b' nb' hr' K Kx hK => ?_
      cases hr'
      exact AO.mapEntry ho (by rw [s.ev_eq]; exact hm) (by rw [s.ev_eq]; exact hk) hr hK
    · exact trivial
  · exact trivial
noncomputable def oentryStore (m t v : TVal) (s : XSt) : XO := match m, t, v with
  | .v m, .v k, .v v => oblk (aentryStore m k v s.st) (.v (.tup [])) s
  | _, _, _ => .bad 0
theorem oentryStore_ok {o : Oper} {t : TypeId} {m k v : Operand} (ho : o.op = .entryStore t m k v) : XOk P G o s (oentryStore (s.ev m) (s.ev k) (s.ev v) s) := by
  unfold oentryStore
  split
  · rename_i m' k' v' hm hk hv
    exact oblk_ok fun b nb hr K Kx hK => AO.entryStore ho (by rw [s.ev_eq]; exact hm) (by rw [s.ev_eq]; exact hk) (by rw [s.ev_eq]; exact hv) hr hK
  · exact trivial
noncomputable def odel (P : Program) (t : TypeId) (m k : TVal) (s : XSt) : XO := match m, k with
  | .v m, .v k => oblk (adel P t m k s.st) (.v (.tup [])) s
  | _, _ => .bad 0
theorem odel_ok {o : Oper} {t t' : TypeId} {m k : Operand} (ho : o.op = .call { callee := .builtin .delete, args := #[m, k], argTypes := #[t, t'] }) : XOk P G o s (odel P t (s.ev m) (s.ev k) s) := by
  unfold odel
  split
  · rename_i m' k' hm hk
    exact oblk_ok fun b nb hr K Kx hK => AO.delete ho (by rw [s.ev_eq]; exact hm) (by rw [s.ev_eq]; exact hk) hr hK
  · exact trivial
noncomputable def omakeMap (T : Tr TI) (t : TypeId) (r : Option TVal) (s : XSt) : XO := match xds T t, r with
  | some (.map _ _), none => xnew (.mp [] [] 0) (.map s.next) s
  | some (.map _ _), some (.v (.int _ _)) => xnew (.mp [] [] 0) (.map s.next) s
  | _, _ => .bad 0
theorem omakeMap_ok (hT : TOk P T) {o : Oper} {t : TypeId} {r : Option Operand} (ho : o.op = .makeMap t r) : XOk P G o s (omakeMap T t (r.map s.ev) s) := by
  unfold omakeMap
  split
  · rename_i kt et hd hr
    have hr' : r = none := by cases r <;> simp_all
    refine XOk.of (fun t' s' h K Kx hK => ?_) (fun v s' h => (xnew_no h).elim)
    obtain ⟨rfl, he⟩ := xnew_ok h
    rw [he] at hK
    exact AO.makeMap ho (xds_ok hT hd) (fun x hx => by rw [hr'] at hx; cases hx) hK
  · rename_i kt et k n hd hr
    refine XOk.of (fun t' s' h K Kx hK => ?_) (fun v s' h => (xnew_no h).elim)
    obtain ⟨rfl, he⟩ := xnew_ok h
    rw [he] at hK
    refine AO.makeMap ho (xds_ok hT hd) (fun x hx => ?_) hK
    subst hx
    exact ⟨k, n, by rw [s.ev_eq]; simpa using hr⟩
  · exact trivial
end
end Go.Abs
namespace Go.Abs
section
variable {P : Program} {T : Tr TI} {G : Nat → Option (List AVal)} {s : XSt}
noncomputable def orange (T : Tr TI) (t : TypeId) (x : TVal) (s : XSt) : XO := match xds T t, x with
  | some .string, .v (.str l) => (match s.newLoc (.siter l 0) with
    | some s' => .val (.lp s.lc 0) s'
    | none => .bad 0)
  | _, _ => .bad 0
theorem orange_ok (hT : TOk P T) {o : Oper} {t : TypeId} {x : Operand} (ho : o.op = .range t x) : XOk P G o s (orange T t (s.ev x) s) := by
  unfold orange
  split
  · rename_i l hd hx
    split
    · rename_i s' hs'
      intro K Kx hK
      rw [XSt.newLoc_eq hs'] at hK
      refine AO.rangeStr ho (xds_ok hT hd) (by rw [s.ev_eq]; exact hx) ?_
      rw [XSt.loc_length]
      exact hK
    · exact trivial
  · exact trivial
noncomputable def onext (x : TVal) (s : XSt) : XO := match x with
  | .lp i 0 => (match s.getLoc i with
    | some (.siter l pos) => cond (Nat.blt pos l.length) (match s.setLoc i (.siter l (pos + (Utf8.decode ⟨l.toArray⟩ pos).2)) with
        | some s' => .val (.v (.tup [.bool true, .int .i64 pos, .int .i32 (Utf8.decode ⟨l.toArray⟩ pos).1])) s'
        | none => .bad 0) (.val (.v (.tup [.bool false])) s)
    | _ => .bad 0)
  | _ => .bad 0
theorem onext_ok {o : Oper} {x : Operand} (ho : o.op = .next x true) : XOk P G o s (onext (s.ev x) s) := by
  unfold onext
  split
  · rename_i i hx
    split
    · rename_i l pos hl
      have hx' : s.st.ev x = .lp i 0 := by rw [s.ev_eq]; exact hx
      have hl' : s.st.loc[i]? = some (.siter l pos) := by rw [s.getLoc_eq]; exact hl
      rw [blt_iff]
      by_cases hp : pos < l.length
      · simp only [hp, decide_true, cond_true]
        split
        · rename_i s' hs'
          intro K Kx hK
          rw [XSt.setLoc_eq hs'] at hK
          exact AO.nextStr ho hx' hl' (fun _ => hK) (fun h => absurd hp h)
        · exact trivial
      · simp only [hp, decide_false, cond_false]
        intro K Kx hK
        exact AO.nextStr ho hx' hl' (fun h => absurd h hp) (fun _ => hK)
    · exact trivial
  · exact trivial
noncomputable def otoBytes (T : Tr TI) (a d : TypeId) (x : TVal) (s : XSt) : XO := match xds T a, xds T d, x with
  | some _, some (.slice e), .v (.str l) => (match xds T e with
    | some (.int .u8) => xnew (.cells 1 (l.map fun c => .int .u8 c.toNat) true) (.sl s.next 0 l.length (.rest 0)) s
    | _ => .bad 0)
  | _, _, _ => .bad 0
theorem otoBytes_ok (hT : TOk P T) {o : Oper} {a d : TypeId} {x : Operand} (ho : o.op = .convert a d x) : XOk P G o s (otoBytes T a d (s.ev x) s) := by
  unfold otoBytes
  split
  · rename_i u e l ha hd hx
    split
    · rename_i he
      refine XOk.of (fun t' s' h K Kx hK => ?_) (fun v s' h => (xnew_no h).elim)
      obtain ⟨rfl, h2⟩ := xnew_ok h
      rw [h2] at hK
      exact AO.toBytes ho (xds_ok hT ha) (xds_ok hT hd) (xds_ok hT he) (by rw [s.ev_eq]; exact hx) hK
    · exact trivial
  · exact trivial
end
end Go.Abs
namespace Go.Abs
section
variable {P : Program} {T : Tr TI} {G : Nat → Option (List AVal)} {s : XSt}
/-- `copy`. -/
noncomputable def ocopy (T : Tr TI) (t : TypeId) (x y : TVal) (s : XSt) : XO := match xds T t, x, y with
  | some (.slice e), .v (.sl b off len c), .v u => (match xif T e, s.heap.get b with
    | some i, some (.cells es l true) => (match asrc s.hp i.size u with
      | some (n, cs) => cond ((Nat.beq es i.size && Nat.ble n len) && (Nat.ble (Nat.add off (Nat.mul len i.size)) l.length && cs.all okCell)) (oblk (some (b, .cells i.size (lset l off cs) true)) (.v (.int .i64 n)) s) (.bad 0)
      | none => .bad 0)
    | _, _ => .bad 0)
  | _, _, _ => .bad 0
theorem ocopy_ok (hT : TOk P T) {o : Oper} {t t' : TypeId} {x y : Operand} (ho : o.op = .call { callee := .builtin .copy, args := #[x, y], argTypes := #[t, t'] }) : XOk P G o s (ocopy T t (s.ev x) (s.ev y) s) := by
  unfold ocopy
  split
  · rename_i e b off len c u hd hx hy
    split
    · rename_i i es l hi hb
      split
      · rename_i n cs hs
        cases hc : ((Nat.beq es i.size && Nat.ble n len) && (Nat.ble (Nat.add off (Nat.mul len i.size)) l.length && cs.all okCell)) with
        | false => exact trivial
        | true =>
          rw [cond_true]
          simp only [Bool.and_eq_true] at hc
          obtain ⟨⟨h1, h2⟩, h3, h4⟩ := hc
          have e1 := Nat.eq_of_beq_eq_true h1
          subst e1
          refine oblk_ok fun b' nb hr K Kx hK => ?_
          cases hr
          exact AO.copy ho (xds_ok hT hd) (xif_ok hT hi) (by rw [s.ev_eq]; exact hx) (by rw [s.ev_eq]; exact hy) hb hs (Nat.le_of_ble_eq_true h2) (Nat.le_of_ble_eq_true h3) (fun v hv => List.all_eq_true.1 h4 v hv) hK
      · exact trivial
    · exact trivial
  · exact trivial
end
end Go.Abs
namespace Go.Abs
section
variable {P : Program} {T : Tr TI} {G : Nat → Option (List AVal)} {s : XSt}
noncomputable def oqv (t : Option TVal) (s : XSt) : XO := match t with
  | some t => .val t s
  | none => .bad 0
theorem oqv_ok {o : Oper} {t : Option TVal} (h : ∀ r, t = some r → AVK P G o (fun r' _ => r' = r) s.st) : XOk P G o s (oqv t s) := by
  cases t with
  | none => exact trivial
  | some r =>
    intro K Kx hK
    obtain ⟨t', rfl, h'⟩ := h r rfl
    exact AV.ao h' hK
/-- Any operation, maps and texts among them. -/
noncomputable def xop3 (P : Program) (T : Tr TI) (G : Nat → Option (List AVal)) (call : FuncId → List AVal → Nat → Tr ABlk → XC) (op : Op) (ty : TypeId) (s : XSt) : XO := match op with
  | .binOp b t x y _ => oqv (qbin P T b t (s.ev x) (s.ev y)) s
  | .lookup t x k ok => oqv (qlookup P t (s.ev x) (s.ev k) ok s) s
  | .makeMap t r => omakeMap T t (r.map s.ev) s
  | .mapUpdate t m k v => xpre s [k, v] fun s => oupd P t (s.ev m) (s.ev k) (s.ev v) s
  | .insert t m k v => xpre s [k, v] fun s => oupd P t (s.ev m) (s.ev k) (s.ev v) s
  | .mapEntry t m k => xpre s [k] fun s => oentry P t (s.ev m) (s.ev k) s
  | .entryStore t m k v => xpre s [v] fun s => oentryStore (s.ev m) (s.ev k) (s.ev v) s
  | .range t x => orange T t (s.ev x) s
  | .next x true => onext (s.ev x) s
  | .convert a d x => (match xds T a, xds T d with
    | some .string, some (.slice _) => otoBytes T a d (s.ev x) s
    | _, _ => oqv (qconv P T a d (s.ev x) s) s)
  | op => xop P T G call op ty s
theorem xop3_ok (hT : TOk P T) {call : FuncId → List AVal → Nat → Tr ABlk → XC} (hc : CallOk P G call) (o : Oper) (s : XSt) : XOk P G o s (xop3 P T G call o.op o.type s) := by
  unfold xop3
  split
  · rename_i ho; exact oqv_ok fun r h => qbin_ok hT ho h
  · rename_i ho; exact oqv_ok fun r h => qlookup_ok ho h
  · rename_i ho; exact omakeMap_ok hT ho
  · rename_i ho; exact xpre_ok fun s1 => oupd_ok (.inl ho)
  · rename_i ho; exact xpre_ok fun s1 => oupd_ok (.inr ho)
  · rename_i ho; exact xpre_ok fun s1 => oentry_ok ho
  · rename_i ho; exact xpre_ok fun s1 => oentryStore_ok ho
  · rename_i ho; exact orange_ok hT ho
  · rename_i ho; exact onext_ok ho
  · rename_i ho
    split
    · exact otoBytes_ok hT ho
    · exact oqv_ok fun r h => qconv_ok hT ho h
  · exact xop_ok hT hc o s
end
end Go.Abs
namespace Go.Abs
section
variable {P : Program} {T : Tr TI} {G : Nat → Option (List AVal)} {s : XSt}
noncomputable def qlen (T : Tr TI) (t : TypeId) (x : TVal) (s : XSt) : Option TVal := match xds T t, x with
  | some (.map _ _), .v m => (match amap s.st m with
    | some l => some (.v (.int .i64 l.length))
    | none => none)
  | _, _ => (xlen T t x).map .v
theorem qlen_ok (hT : TOk P T) {o : Oper} {t : TypeId} {ts : Array TypeId} {x : Operand} {r : TVal} (ho : o.op = .call { callee := .builtin .len, args := #[x], argTypes := ts }) (hts : ts[0]? = some t) (h : qlen T t (s.ev x) s = some r) : AVK P G o (fun r' _ => r' = r) s.st := by
  unfold qlen at h
  split at h
  · rename_i kt et m hd hx
    split at h
    · rename_i l hl
      cases h
      exact AVK.lenMap ho hts (xds_ok hT hd) (by rw [s.ev_eq]; exact hx) hl rfl
    · cases h
  · obtain ⟨v, hv, rfl⟩ := Option.map_eq_some_iff.1 h
    exact AVK.len ho hts (by rw [s.ev_eq]; exact xlen_ok hT hv rfl)
noncomputable def qcap (T : Tr TI) (t : TypeId) (x : TVal) : Option TVal := match xds T t, x with
  | some (.slice _), .v v => (match acap v with
    | some n => some (.v (.int .i64 n))
    | none => none)
  | _, _ => none
theorem qcap_ok (hT : TOk P T) {o : Oper} {t : TypeId} {ts : Array TypeId} {x : Operand} {r : TVal} (ho : o.op = .call { callee := .builtin .cap, args := #[x], argTypes := ts }) (hts : ts[0]? = some t) (h : qcap T t (s.ev x) = some r) : AVK P G o (fun r' _ => r' = r) s.st := by
  unfold qcap at h
  split at h
  · rename_i e v hd hx
    split at h
    · rename_i n hn
      cases h
      exact AVK.cap ho hts (xds_ok hT hd) (by rw [s.ev_eq]; exact hx) hn rfl
    · cases h
  · cases h
/-- The builtins of maps, copies and rooms. -/
noncomputable def xop4 (P : Program) (T : Tr TI) (G : Nat → Option (List AVal)) (call : FuncId → List AVal → Nat → Tr ABlk → XC) (op : Op) (ty : TypeId) (s : XSt) : XO := match op with
  | .call c => (match c.callee, c.args.toList, c.argTypes.toList with
    | .builtin .len, [x], t :: _ => oqv (qlen T t (s.ev x) s) s
    | .builtin .cap, [x], t :: _ => oqv (qcap T t (s.ev x)) s
    | .builtin .delete, [m, k], [t, _] => odel P t (s.ev m) (s.ev k) s
    | .builtin .copy, [x, y], [t, _] => ocopy T t (s.ev x) (s.ev y) s
    | _, _, _ => xop P T G call op ty s)
  | op => xop3 P T G call op ty s
theorem xop4_ok (hT : TOk P T) {call : FuncId → List AVal → Nat → Tr ABlk → XC} (hc : CallOk P G call) (o : Oper) (s : XSt) : XOk P G o s (xop4 P T G call o.op o.type s) := by
  unfold xop4
  split
  · rename_i c ho
    obtain ⟨callee, args, ts⟩ := c
    split
    · rename_i x t r hb hx ht
      simp only at hb hx ht
      subst hb
      rw [arr1 hx] at ho
      exact oqv_ok fun r h => qlen_ok hT ho (by rw [← Array.getElem?_toList, ht]; rfl) h
    · rename_i x t r hb hx ht
      simp only at hb hx ht
      subst hb
      rw [arr1 hx] at ho
      exact oqv_ok fun r h => qcap_ok hT ho (by rw [← Array.getElem?_toList, ht]; rfl) h
    · rename_i m k t t' hb hx ht
      simp only at hb hx ht
      subst hb
      rw [arr2 hx, arr2 ht] at ho
      exact odel_ok ho
    · rename_i m k t t' hb hx ht
      simp only at hb hx ht
      subst hb
      rw [arr2 hx, arr2 ht] at ho
      exact ocopy_ok hT ho
    · exact xop_ok hT hc o s
  · exact xop3_ok hT hc o s
end
end Go.Abs
namespace Go.Abs
abbrev XCaller := FuncId → List AVal → Nat → Tr ABlk → XC
/-- A run of a call; what is known of calls is asked first. -/
noncomputable def xrun4 (P : Program) (T : Tr TI) (G : Nat → Option (List AVal)) (F : Tr Func) (dr : XCaller → Nat → Array Oper → XSt → XR) (known : XCaller) (rounds : Nat) (depth : Nat) : XCaller :=
  Nat.rec (motive := fun _ => XCaller) (fun _ _ _ _ => .bad 11) (fun _ ih f args next heap => match known f args next heap with
    | .bad _ => (match F.get f with
      | some fn => xbody (xop4 P T G ih) (dr ih) T G rounds f fn args next heap
      | none => .bad (f * 1000000000 + 4))
    | r => r) depth
section
variable {P : Program} {T : Tr TI} {G : Nat → Option (List AVal)}
theorem xrun4_ok (hT : TOk P T) {F : Tr Func} (hF : FOk P F) {dr : XCaller → Nat → Array Oper → XSt → XR} (hdr : DrOk P G dr) {known : XCaller} (hk : CallOk P G known) (rounds : Nat) : ∀ depth : Nat, CallOk P G (xrun4 P T G F dr known rounds depth)
  | 0 => fun g args n h => ⟨fun v n' h' e => (by cases e), fun v n' h' e => (by cases e)⟩
  | d + 1 => fun g args n h => by
    have ih := xrun4_ok hT hF hdr hk rounds d
    have e : xrun4 P T G F dr known rounds (d + 1) g args n h = (match known g args n h with
      | .bad _ => (match F.get g with
        | some fn => xbody (xop4 P T G (xrun4 P T G F dr known rounds d)) (dr (xrun4 P T G F dr known rounds d)) T G rounds g fn args n h
        | none => .bad (g * 1000000000 + 4))
      | r => r) := rfl
    have hkn := hk g args n h
    cases hg : known g args n h with
    | ret v n1 h1 =>
      rw [hg] at e
      have := hkn.1 v n1 h1 hg
      exact ⟨fun v n' h' e' => (by rw [e] at e'; cases e'; exact this), fun v n' h' e' => (by rw [e] at e'; cases e')⟩
    | exn v n1 h1 =>
      rw [hg] at e
      have := hkn.2 v n1 h1 hg
      exact ⟨fun v n' h' e' => (by rw [e] at e'; cases e'), fun v n' h' e' => (by rw [e] at e'; cases e'; exact this)⟩
    | bad m =>
      rw [hg] at e
      cases hf : F.get g with
      | none =>
        rw [hf] at e
        exact ⟨fun v n' h' e' => (by rw [e] at e'; cases e'), fun v n' h' e' => (by rw [e] at e'; cases e')⟩
      | some fn =>
        rw [hf] at e
        obtain ⟨h1, h2⟩ := hF _ _ hf
        have hb := xbody_ok (P := P) (G := G) hT (fun o s => xop4_ok hT ih o s) (hdr _ ih) (rounds := rounds) h1 (args := args) (n := n) (hp := h)
        exact ⟨fun v n' h' e' => ⟨h2, hb.1 v n' h' (by rw [← e']; exact e.symm)⟩, fun v n' h' e' => ⟨h2, hb.2 v n' h' (by rw [← e']; exact e.symm)⟩⟩
/-- A call that is handed no memory and hands back none, as a thing known. -/
theorem CallOk.one {f : FuncId} {args : List AVal} {v : AVal} (hp : plainFn P f = true) (ha : ∀ u ∈ args, Bel 0 u) (hv : Bel 0 v) (h : ACalls P G f args { next := 0, get := fun _ => none } (fun e _ => e = .ret v)) (H : AHeap) :
    ACalls P G f args H fun e H' => e = .ret v ∧ H' = H :=
  ACalls.alone ha h (fun e he => by subst he; exact hv) H
end
end Go.Abs
namespace Go.Abs
section
variable {P : Program} {G : Nat → Option (List AVal)} {st : St}
/-- A function without a text, that leaves the world as it is: its value. -/
theorem AVK.extern {o : Oper} {f : Operand} {args : Array Operand} {ts : Array TypeId} {K : TVal → St → Prop} {g : FuncId} {fn : Func} {e : Array Value → Sem Value} {l : List AVal} {r : AVal} (ho : o.op = .call { callee := .value f, args := args, argTypes := ts })
    (hf : st.ev f = .v (.func (.func g) [] [])) (hfn : P.funcs[g]? = some fn) (hname : (fn.name == "runtime.NumGoroutine") = false) (hb : fn.body.isNone = true) (hne : Extern.findNext fn = none) (he : Extern.find fn = some e)
    (hl : vals st args.toList = some l) (hr0 : ∀ (σ : Nat → Pl) (N : Nat) (w : World) (Args : Array Value), VRs σ N l Args → ∃ V, (e Args).run P w = .ok V w ∧ VR σ N r V) (hK : K (.v r) st) : AVK P G o K st :=
  AVK.value hK fun σ lam w a hr => by
    have h1 := ev_rel hr f
    rw [hf] at h1
    have h2 := vals_rel hr _ _ hl
    have hF : a.eval f = .func (.func g) #[] #[] := by
      have h1' : VR σ st.heap.next (.func (.func g) [] []) (a.eval f) := h1
      generalize a.eval f = V at h1'
      cases h1' with
      | func _ _ _ Fs Cs h3 h4 h5 h6 =>
        have e1 : Fs = #[] := Array.eq_empty_of_size_eq_zero (by simpa using h3)
        have e2 : Cs = #[] := Array.eq_empty_of_size_eq_zero (by simpa using h4)
        rw [e1, e2]
    have hm : args.map a.eval = (args.toList.map a.eval).toArray := by
      apply Array.toList_inj.1
      simp
    obtain ⟨V, hV, hVR⟩ := hr0 σ _ w _ h2
    refine ⟨V, ?_, hVR, fun k o he => by cases he⟩
    have hcf := run_callFunc_standIn (P := P) hfn hname hb hne he ((args.toList.map a.eval).toArray) w
    rw [hV] at hcf
    simp only [execOp, ho, resolve, Deferred.ofValue, hF, Sem.run_bind, Sem.run_pure, Result.andThen_ok, invoke, hm, Array.append_empty, Array.empty_append, hcf]
end
end Go.Abs
namespace Go.Abs
section
variable {P : Program}
theorem vrs_one {σ : Nat → Pl} {N : Nat} {v : AVal} {Args : Array Value} (h : VRs σ N [v] Args) : ∃ V, Args = #[V] ∧ VR σ N v V := by
  obtain ⟨hs, hx⟩ := h
  match Args, hs with
  | ⟨[V]⟩, _ => exact ⟨V, rfl, hx 0 v V rfl rfl⟩
theorem vrs_two {σ : Nat → Pl} {N : Nat} {v u : AVal} {Args : Array Value} (h : VRs σ N [v, u] Args) : ∃ V U, Args = #[V, U] ∧ VR σ N v V ∧ VR σ N u U := by
  obtain ⟨hs, hx⟩ := h
  match Args, hs with
  | ⟨[V, U]⟩, _ => exact ⟨V, U, rfl, hx 0 v V rfl rfl, hx 1 u U rfl rfl⟩
theorem ext_same {v : AVal} (σ : Nat → Pl) (N : Nat) (w : World) (Args : Array Value) (h : VRs σ N [v] Args) : ∃ V, (Extern.AbiNoEscape.same Args).run P w = .ok V w ∧ VR σ N v V := by
  obtain ⟨V, rfl, hv⟩ := vrs_one h
  exact ⟨V, rfl, hv⟩
theorem ext_indexByte {s : List UInt8} {c : Int} (σ : Nat → Pl) (N : Nat) (w : World) (Args : Array Value) (h : VRs σ N [.str s, .int .u8 c] Args) : ∃ V, (Extern.BytealgIndexByte.indexByte Args).run P w = .ok V w ∧ VR σ N (.int .i64 (firstIdx ⟨s.toArray⟩ c.toNat.toUInt8)) V := by
  obtain ⟨V, U, rfl, hv, hu⟩ := vrs_two h
  cases hv
  cases hu
  exact ⟨_, run_indexByte_string _ _ w, .int _ _⟩
theorem ext_count {s : List UInt8} {c : Int} (σ : Nat → Pl) (N : Nat) (w : World) (Args : Array Value) (h : VRs σ N [.str s, .int .u8 c] Args) :
    ∃ V, (Extern.BytealgCount.count Args).run P w = .ok V w ∧ VR σ N (.int .i64 ((⟨s.toArray⟩ : ByteArray).foldl (fun (n : Int) x => if x == c.toNat.toUInt8 then n + 1 else n) ((0 : Nat) : Int))) V := by
  obtain ⟨V, U, rfl, hv, hu⟩ := vrs_two h
  cases hv
  cases hu
  refine ⟨_, ?_, .int _ _⟩
  change Sem.run P (do
    let b ← Extern.Bytes.bytesOf (.string ⟨s.toArray⟩)
    let c' ← Extern.Bytes.asByte (.int .u8 c)
    pure (goInt (b.foldl (fun (n : Int) x => if x == c' then n + 1 else n) ((0 : Nat) : Int)))) w = _
  simp only [Extern.Bytes.bytesOf, Extern.Bytes.asByte, Sem.run_bind, Sem.run_pure, Result.andThen, goInt]
theorem ext_cmp {s t : List UInt8} (σ : Nat → Pl) (N : Nat) (w : World) (Args : Array Value) (h : VRs σ N [.str s, .str t] Args) :
    ∃ V, (Extern.BytealgCompare.compare Args).run P w = .ok V w ∧ VR σ N (.int .i64 (Extern.BytealgCompare.cmp ⟨s.toArray⟩ ⟨t.toArray⟩)) V := by
  obtain ⟨V, U, rfl, hv, hu⟩ := vrs_two h
  cases hv
  cases hu
  refine ⟨_, ?_, .int _ _⟩
  change Sem.run P (do pure (goInt (Extern.BytealgCompare.cmp (← Extern.Bytes.bytesOf (.string ⟨s.toArray⟩)) (← Extern.Bytes.bytesOf (.string ⟨t.toArray⟩))))) w = _
  simp only [Extern.Bytes.bytesOf, Sem.run_bind, Sem.run_pure, Result.andThen, goInt]
end
end Go.Abs
namespace Go.Abs
section
variable {P : Program} {G : Nat → Option (List AVal)} {st : St}
/-- A block that may be spoken of in another way. -/
theorem AQ1.reblk {σ : Nat → Pl} {lam : Nat → Nat} {w : World} {a : Act} (hr : Rel G σ lam st w a) {b : Nat} {blk nb : ABlk} (hb : st.heap.get b = some blk) (hl : blk.rw = true) (hn : BlkR σ st.heap.next (σ b) w nb) (hnl : nb.rw = true) :
    AQ1 G σ lam st w .normal { st with heap := st.heap.set b nb } .normal a w σ lam := by
  have hlt := hn.size
  have ho : w.heap[(σ b).g]? = some w.heap[(σ b).g] := by simp [hlt]
  have hs := setBlk_self w (σ b).g _ ho
  have := AQ1.setHeap hr hb hl w.heap[(σ b).g] (by rw [hs]; exact hn) hnl
  rwa [hs] at this
theorem AW.openMs {c : Code} {K : AExit → St → Prop} {b : Nat} {l : List (AVal × AVal)} (hb : st.heap.get b = some (.ms l))
    (h : ∀ l' bs n, l'.Perm l → bs.length = l'.length → (∀ x ∈ bs, x < n) → bs.Nodup → AW P G c K { st with heap := st.heap.set b (.mp l' bs n) }) : AW P G c K st := fun σ lam w a hr => by
  obtain ⟨l', bs, n, hp, hm⟩ := hr.heap.blk b _ hb
  have q : AQ1 G σ lam st w .normal _ .normal a w σ lam := AQ1.reblk hr (nb := .mp l' bs n) hb rfl hm rfl
  obtain ⟨es, h1, h2, h3, h4, h5, h6⟩ := hm
  refine wp_mono (h l' bs n hp (by rw [← h4]; simpa using h2) h5 h6 σ lam w a q.rel) fun e a' w' hq => ?_
  obtain ⟨σ', lam', x, st', hK, q'⟩ := hq
  exact ⟨σ', lam', x, st', hK, q.trans q'⟩
theorem AO.openMs {o : Oper} {K : TVal → St → Prop} {Kx : AVal → St → Prop} {b : Nat} {l : List (AVal × AVal)} (hb : st.heap.get b = some (.ms l))
    (h : ∀ l' bs n, l'.Perm l → bs.length = l'.length → (∀ x ∈ bs, x < n) → bs.Nodup → AO P G o K Kx { st with heap := st.heap.set b (.mp l' bs n) }) : AO P G o K Kx st := fun σ lam w a hr next Q hn hx => by
  obtain ⟨l', bs, n, hp, hm⟩ := hr.heap.blk b _ hb
  have q : AQ1 G σ lam st w .normal _ .normal a w σ lam := AQ1.reblk hr (nb := .mp l' bs n) hb rfl hm rfl
  obtain ⟨es, h1, h2, h3, h4, h5, h6⟩ := hm
  refine h l' bs n hp (by rw [← h4]; simpa using h2) h5 h6 σ lam w a q.rel next Q (fun t st' V w' σ2 lam2 hK hor => ?_) (fun v st' V w' σ2 lam2 hK hv q2 => ?_)
  · exact hn t st' V w' σ2 lam2 hK ⟨q.trans hor.q, hor.tr, hor.lp⟩
  · exact hx v st' V w' σ2 lam2 hK hv (q.trans q2)
theorem Rel.closeMs {σ : Nat → Pl} {lam : Nat → Nat} {w : World} {a : Act} (hr : Rel G σ lam st w a) {b : Nat} {l l' : List (AVal × AVal)} {bs : List Nat} {n : Nat} (hb : st.heap.get b = some (.mp l' bs n)) (hp : l'.Perm l) :
    AQ1 G σ lam st w .normal { st with heap := st.heap.set b (.ms l) } .normal a w σ lam :=
  AQ1.reblk hr (nb := .ms l) hb rfl ⟨l', bs, n, hp, hr.heap.blk b _ hb⟩ rfl
theorem AO.closeMs {o : Oper} {K : TVal → St → Prop} {Kx : AVal → St → Prop} {b : Nat} {l : List (AVal × AVal)}
    (h : AO P G o (fun t s => ∃ l' bs n, s.heap.get b = some (.mp l' bs n) ∧ l'.Perm l ∧ K t { s with heap := s.heap.set b (.ms l) }) (fun _ _ => False) st) : AO P G o K Kx st := fun σ lam w a hr next Q hn hx => by
  refine h σ lam w a hr next Q (fun t st' V w' σ2 lam2 hK hor => ?_) (fun v st' V w' σ2 lam2 hK hv q2 => hK.elim)
  obtain ⟨l', bs, n, hb, hp, hK⟩ := hK
  have q := hor.q.rel.closeMs hb hp
  refine hn t _ V w' σ2 lam2 hK ⟨hor.q.trans q, ?_, ?_⟩
  · exact hor.tr
  · exact hor.lp
/-! An entry goes from a set of entries. -/
def zmsAll (cmp : AVal → Option Bool) : List (AVal × AVal) → Bool
  | [] => true
  | p :: r => match cmp p.1 with
    | some false => zmsAll cmp r
    | _ => false
def zmsDel (cmp : AVal → Option Bool) : List (AVal × AVal) → Option (List (AVal × AVal))
  | [] => some []
  | p :: r => match cmp p.1 with
    | some true => cond (zmsAll cmp r) (some r) none
    | some false => (match zmsDel cmp r with
      | some l => some (p :: l)
      | none => none)
    | none => none
theorem zmsAll_ok {cmp : AVal → Option Bool} : ∀ {l : List (AVal × AVal)}, zmsAll cmp l = true → ∀ p ∈ l, cmp p.1 = some false
  | [], _, p, hp => by cases hp
  | q :: r, h, p, hp => by
    simp only [zmsAll] at h
    split at h
    · rename_i hq
      rcases List.mem_cons.1 hp with rfl | hp
      · exact hq
      · exact zmsAll_ok h p hp
    · cases h
theorem zmsDel_ok {cmp : AVal → Option Bool} : ∀ {l l2 : List (AVal × AVal)}, zmsDel cmp l = some l2 → (l2 = l ∧ ∀ p ∈ l, cmp p.1 = some false) ∨ (∃ p, l.Perm (p :: l2) ∧ cmp p.1 = some true ∧ ∀ q ∈ l2, cmp q.1 = some false)
  | [], l2, h => by cases h; exact .inl ⟨rfl, fun p hp => by cases hp⟩
  | p :: r, l2, h => by
    simp only [zmsDel] at h
    split at h
    · rename_i hp
      cases ha : zmsAll cmp r with
      | false => rw [ha] at h; cases h
      | true =>
        rw [ha] at h
        cases h
        exact .inr ⟨p, .refl _, hp, zmsAll_ok ha⟩
    · rename_i hp
      split at h
      · rename_i l hl
        cases h
        rcases zmsDel_ok hl with ⟨rfl, h1⟩ | ⟨q, h1, h2, h3⟩
        · refine .inl ⟨rfl, fun q hq => ?_⟩
          rcases List.mem_cons.1 hq with rfl | hq
          · exact hp
          · exact h1 q hq
        · refine .inr ⟨q, (h1.cons p).trans (.swap q p l), h2, fun x hx => ?_⟩
          rcases List.mem_cons.1 hx with rfl | hx
          · exact hp
          · exact h3 x hx
      · cases h
    · cases h
theorem afind_none {kt : TypeId} {k : AVal} : ∀ (l : List (AVal × AVal)) (i : Nat), (∀ p ∈ l, aeqS P 10000 kt k p.1 = some false) → afind P kt k l i = some none
  | [], i, h => rfl
  | (k', u) :: r, i, h => by
    have h1 := h (k', u) (by simp)
    simp only [afind, h1]
    exact afind_none r (i + 1) fun p hp => h p (by simp [hp])
theorem afind_perm {kt : TypeId} {k : AVal} {p : AVal × AVal} (hp : aeqS P 10000 kt k p.1 = some true) : ∀ (l l2 : List (AVal × AVal)) (n : Nat), l.Perm (p :: l2) → (∀ q ∈ l2, aeqS P 10000 kt k q.1 = some false) →
    ∃ i v, afind P kt k l n = some (some (n + i, v)) ∧ (l.eraseIdx i).Perm l2
  | [], l2, n, h, _ => by simp at h
  | q :: r, l2, n, h, hf => by
    rcases List.mem_cons.1 (h.mem_iff.1 (List.mem_cons_self (a := q) (l := r))) with rfl | hq
    · obtain ⟨k', u⟩ := q
      refine ⟨0, u, by simp only [afind, hp, Nat.add_zero], ?_⟩
      simpa using h.cons_inv
    · have hqf := hf q hq
      obtain ⟨s, t, rfl⟩ := List.append_of_mem hq
      have h1 : (q :: r).Perm (q :: (p :: (s ++ t))) := by
        refine h.trans ?_
        refine .trans (.cons p List.perm_middle) (.swap _ _ _)
      obtain ⟨i, v, h2, h3⟩ := afind_perm hp r (s ++ t) (n + 1) h1.cons_inv fun x hx => hf x (by
        rcases List.mem_append.1 hx with hx | hx
        · simp [hx]
        · simp [hx])
      obtain ⟨k', u⟩ := q
      refine ⟨i + 1, v, ?_, ?_⟩
      · simp only [afind, hqf, h2]
        congr 3
        omega
      · rw [List.eraseIdx_cons_succ]
        exact (h3.cons _).trans List.perm_middle.symm
theorem AHeap.set_set (H : AHeap) (b : Nat) (x y : ABlk) : (H.set b x).set b y = H.set b y := by
  simp only [AHeap.set]
  congr 1
  funext i
  split <;> rfl
theorem AO.deleteMs {o : Oper} {t t' kt et : TypeId} {mx kx : Operand} {K : TVal → St → Prop} {Kx : AVal → St → Prop} {k : AVal} {b : Nat} {l l2 : List (AVal × AVal)} {cmp : AVal → Option Bool} (ho : o.op = .call { callee := .builtin .delete, args := #[mx, kx], argTypes := #[t, t'] })
    (hd : P.underlying t = some (.map kt et)) (hmx : st.ev mx = .v (.map b)) (hkx : st.ev kx = .v k) (hb : st.heap.get b = some (.ms l)) (hck : acheck P 10000 kt k = true) (hcmp : ∀ k' r, cmp k' = some r → aeqS P 10000 kt k k' = some r) (h : zmsDel cmp l = some l2)
    (hK : K (.v (.tup [])) { st with heap := st.heap.set b (.ms l2) }) : AO P G o K Kx st := by
  refine AO.closeMs (b := b) (l := l2) (AO.openMs hb fun l' bs n hp hl hlt hnd => ?_)
  have hg : (st.heap.set b (.mp l' bs n)).get b = some (.mp l' bs n) := by simp [AHeap.set]
  rcases zmsDel_ok h with ⟨rfl, h1⟩ | ⟨p, h1, h2, h3⟩
  · have hf := afind_none (P := P) (kt := kt) (k := k) l' 0 fun q hq => hcmp _ _ (h1 q (hp.mem_iff.1 hq))
    refine AO.delete (m := .map b) (k := k) (b := b) (nb := .mp l' bs n) ho hmx hkx ?_ ⟨l', bs, n, by simp [AHeap.set], hp, ?_⟩
    · simp only [adel, hd, hg, hck, if_true, hf]
    · rw [AHeap.set_set, AHeap.set_set]; exact hK
  · obtain ⟨i, v, h4, h5⟩ := afind_perm (P := P) (kt := kt) (k := k) (hcmp _ _ h2) l' l2 0 (hp.trans h1) fun q hq => hcmp _ _ (h3 q hq)
    rw [Nat.zero_add] at h4
    refine AO.delete (m := .map b) (k := k) (b := b) (nb := .mp (l'.eraseIdx i) (bs.eraseIdx i) n) ho hmx hkx ?_ ⟨l'.eraseIdx i, bs.eraseIdx i, n, by simp [AHeap.set], h5, ?_⟩
    · simp only [adel, hd, hg, hck, if_true, h4]
    · rw [AHeap.set_set, AHeap.set_set]; exact hK
noncomputable def zkeyB (T : Tr TI) (kt : TypeId) (k : AVal) : Bool := match xds T kt, k with
  | some (.int _), .int _ _ => true
  | some .string, .str _ => true
  | _, _ => false
theorem zkey_check {T : Tr TI} (hT : TOk P T) {kt : TypeId} {k : AVal} (h : zkeyB T kt k = true) : acheck P 10000 kt k = true := by
  unfold zkeyB at h
  show acheck P (9999 + 1) kt k = true
  split at h
  · rename_i hd
    simp only [acheck, xds_ok hT hd]
  · rename_i hd
    simp only [acheck, xds_ok hT hd]
  · cases h
end
end Go.Abs

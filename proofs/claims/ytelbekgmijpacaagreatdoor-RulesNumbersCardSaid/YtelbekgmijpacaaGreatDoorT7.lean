/- The theory of abstract runs, part 7: what a contract says, and that the executor keeps it. Of no program. -/
import Derived.Test.YtelbekgmijpacaaGreatDoorT6
namespace Go.Abs
noncomputable def zadopt1 (nv : NV) (blk : ABlk) (d : Option Tmp) (s : XSt) : Option XSt := match zput d (.v (nv.val s.next)) s with
  | some s1 => s1.alloc blk
  | none => none
noncomputable def zadopt (tr0 : List ZEnt) : List Oper → List ZEnt → Nat → XSt → Option XSt
  | o :: r, e :: tr, i, s => (match e.k with
    | .new nv blk => (match zadopt1 nv (zcont blk tr0 i (fun _ => true)) o.dst s with
      | some s1 => zadopt tr0 r tr (Nat.add i 1) s1
      | none => none)
    | _ => zadopt tr0 r tr (Nat.add i 1) s)
  | _, _, _, s => some s
noncomputable def zdr4 (E : XE) (ops : Array Oper) (id : Nat) (l : List Oper) (o : Option XSt) (c : XCaller) : XR := match o with
  | some s => zops E ops id l c s
  | none => .bad (Nat.add (Nat.mul id 1000) 996)
def zpanB (A : List Nat) (r n : Nat) : Bool := zall (fun j => zbit (A.getD j 0) r) (zrng (Nat.add r 1) (Nat.sub n (Nat.add r 1)))
noncomputable def zlost (s m : XSt) : XSt := XSt.casesOn (motive := fun _ => XSt) s fun n _ _ _ _ _ => XSt.casesOn (motive := fun _ => XSt) m fun _ _ lc loc next heap => .mk n .nil lc loc next heap
noncomputable def zdr3 (E : XE) (ops : Array Oper) (id : Nat) (A : List Nat) (h n : Nat) (ol : List Oper) (w : ZW) (c : XCaller) (s : XSt) : XR := match w with
  | .done tr sf => cond (zchk E ops A (ol.take h) h n tr s none) (zdr4 E ops id (ol.drop h) (zadopt tr (ol.take h) tr 0 sf) c) (.bad (Nat.add (Nat.mul id 1000) 997))
  | .exn tr v m => cond (zchk E ops A ol n n tr s (some (Nat.sub tr.length 1)) && zpanB A (Nat.sub tr.length 1) n) (.ok (.panic v) (zlost s m)) (.bad (Nat.add (Nat.mul id 1000) 995))
  | .bad k => .bad k
noncomputable def isX : ZI → Bool
  | .x _ => true
  | .q _ => false
noncomputable def xIdx (T : Tr TI) : List Oper → Nat → List Nat
  | [], _ => []
  | o :: r, i => cond (isX (zdec T o.op)) (i :: xIdx T r (Nat.add i 1)) (xIdx T r (Nat.add i 1))
def zhd (A : List Nat) : Nat → Nat
  | 0 => 0
  | k + 1 => cond (Nat.beq (A.getD k 0) (Nat.sub (Nat.pow 2 k) 1)) (zhd A k) (Nat.add k 1)
noncomputable def zdr2 (E : XE) (ops : Array Oper) (id : Nat) (ol : List Oper) (A : List Nat) (n h : Nat) (un : Bool) : ZK := fun c s => zdr3 E ops id A h n ol (zwalk E ops un id (ol.take h) c s) c s
noncomputable def zdr1 (E : XE) (ops : Array Oper) (id : Nat) (ol : List Oper) (A : List Nat) (n : Nat) (un : Bool) : ZK := cond (zstatic A ops (zenum ol 0)) (zdr2 E ops id ol A n (cond un (zhd A n) n) un) (fun _ _ => .bad (Nat.add (Nat.mul id 1000) 998))
noncomputable def zdr0 (E : XE) (ops : Array Oper) (id : Nat) (ol : List Oper) (A : List Nat) : ZK := zdr1 E ops id ol A ol.length (not (zchainB A (xIdx E.T ol 0)))
noncomputable def zdraw (E : XE) (id : Nat) (ops : Array Oper) : ZK := zdr0 E ops id ops.toList (zanc ops.toList [])
section
variable {E : XE} {ops : Array Oper}
theorem drop_head {α : Type} {l : List α} {i : Nat} {e : α} {t : List α} (h : l.drop i = e :: t) : l[i]? = some e ∧ l.drop (i + 1) = t := by
  constructor
  · have : (l.drop i)[0]? = some e := by rw [h]; rfl
    rw [List.getElem?_drop] at this
    simpa using this
  · have : (l.drop i).drop 1 = t := by rw [h]; rfl
    rw [List.drop_drop] at this
    first
      | exact this
      | (rw [Nat.add_comm] at this; exact this)
theorem trd_sem (hE : EOk E) {A : List Nat} {h n : Nat} {tr0 : List ZEnt} {s0 : XSt} {e0 : List TVal} {pv : AVal} {Mp : Loc × AHeap} (hn : n = ops.size) (hlk : ∀ (i : Nat) (o : Oper), ops[i]? = some o → ∀ t ∈ o.looksAt ops, t < 16777214)
    (hv : ∀ i o e, i < h → ops[i]? = some o → tr0[i]? = some e → zval1 E ops A tr0 s0 n none (i, o, e) = true) {l : List Oper} {s sf : XSt} {tr : List ZEnt} (ht : TrD E ops l s tr sf) :
    ∀ i0, i0 + l.length ≤ h → tr0.drop i0 = tr → (∀ (j : Nat) (o : Oper), l[j]? = some o → ops[i0 + j]? = some o) → s.st.env = (zplan A h tr0 s0 none).env ops e0 i0 →
      (∀ k, mm (memAt tr0 s0 ((zplan A h tr0 s0 none).ord ops i0 + k)) = mm (memAt tr s k)) →
      (∀ i o, i0 ≤ i → i < i0 + l.length → ops[i]? = some o → (zplan A h tr0 s0 none).Sem E.P E.G ops e0 pv Mp i o) ∧ sf.st.env = (zplan A h tr0 s0 none).env ops e0 (i0 + l.length) ∧ mm (memAt tr0 s0 ((zplan A h tr0 s0 none).ord ops (i0 + l.length))) = mm sf := by
  induction ht with
  | nil s =>
    intro i0 hh htr hl henv hM
    refine ⟨fun i o h1 h2 => ?_, henv, ?_⟩
    · simp at h2; omega
    · have := hM 0
      simpa [memAt] using this
  | cons o r s s' sf e tr hs hst ht ih =>
    intro i0 hh htr hl henv hM
    obtain ⟨he, htr'⟩ := drop_head htr
    simp only [List.length_cons] at hh ⊢
    have ho : ops[i0]? = some o := by simpa using hl 0 o rfl
    obtain ⟨h1, h2, h3⟩ := stp_sem (pv := pv) (Mp := Mp) hE ho hn he hst hs (pan := none) (by simp) henv hM (hlk i0 o ho) (hv i0 o e (by omega) ho he)
    obtain ⟨h4, h5, h6⟩ := ih (i0 + 1) (by omega) htr' (fun j o' hj => by
      have := hl (j + 1) o' (by simpa using hj)
      have e1 : i0 + 1 + j = i0 + (j + 1) := by omega
      rw [e1]; exact this) h2 h3
    have e2 : i0 + (r.length + 1) = i0 + 1 + r.length := by omega
    rw [e2]
    refine ⟨fun i o' hi1 hi2 ho' => ?_, h5, h6⟩
    by_cases hi : i = i0
    · subst hi
      obtain rfl : o' = o := Option.some.inj (ho'.symm.trans ho)
      exact h1
    · exact h4 i o' (by omega) hi2 ho'
theorem trx_len {l : List Oper} {s m : XSt} {v : AVal} {tr : List ZEnt} (h : TrX E ops l s tr v m) : 0 < tr.length ∧ tr.length ≤ l.length := by
  induction h with
  | here o r s m v hg h => simp
  | cons o r s s' m v e tr hs h ht ih => simp; omega
theorem trx_sem (hE : EOk E) {A : List Nat} {h n r0 : Nat} {tr0 : List ZEnt} {s0 : XSt} {e0 : List TVal} (hn : n = ops.size) (hlk : ∀ (i : Nat) (o : Oper), ops[i]? = some o → ∀ t ∈ o.looksAt ops, t < 16777214)
    (hv : ∀ i o e, i < h → ops[i]? = some o → tr0[i]? = some e → zval1 E ops A tr0 s0 n (some r0) (i, o, e) = true) {l : List Oper} {s m : XSt} {v : AVal} {tr : List ZEnt} (ht : TrX E ops l s tr v m) :
    ∀ i0, i0 + l.length ≤ h → r0 + 1 = i0 + tr.length → tr0.drop i0 = tr → (∀ (j : Nat) (o : Oper), l[j]? = some o → ops[i0 + j]? = some o) → s.st.env = (zplan A h tr0 s0 (some r0)).env ops e0 i0 →
      (∀ k, mm (memAt tr0 s0 ((zplan A h tr0 s0 (some r0)).ord ops i0 + k)) = mm (memAt tr s k)) →
      (∀ i o, i0 ≤ i → i ≤ r0 → ops[i]? = some o → (zplan A h tr0 s0 (some r0)).Sem E.P E.G ops e0 v (mm m) i o) := by
  induction ht with
  | here o r s m v hg hx =>
    intro i0 hh hr htr hl henv hM i o' h1 h2 ho'
    have hi : i = i0 := by simp at hr; omega
    have hr0 : r0 = i0 := by simp at hr; omega
    subst hi; subst hr0
    have ho : ops[r0]? = some o := by simpa using hl 0 o rfl
    obtain rfl : o' = o := Option.some.inj (ho'.symm.trans ho)
    refine .pan (guardIs_congr hg fun t ht => by rw [← henv]) rfl ?_
    have hM0 : mm (memAt tr0 s0 ((zplan A h tr0 s0 (some r0)).ord ops r0)) = mm s := by
      have := hM 0
      rw [Nat.add_zero, memAt_zero] at this
      exact this
    have hao := XOk.exn_ao hx
    rw [zmsk_st (hlk r0 o' ho), henv] at hao
    have h3 : (zplan A h tr0 s0 (some r0)).M ((zplan A h tr0 s0 (some r0)).ord ops r0) = mm s := hM0
    rw [h3]
    exact hao
  | cons o r s s' m v e tr hs hst ht ih =>
    intro i0 hh hr htr hl henv hM i o' hi1 hi2 ho'
    obtain ⟨he, htr'⟩ := drop_head htr
    simp only [List.length_cons] at hh hr
    have hlen := (trx_len ht).1
    have ho : ops[i0]? = some o := by simpa using hl 0 o rfl
    obtain ⟨h1, h2, h3⟩ := stp_sem (pv := v) (Mp := mm m) hE ho hn he hst hs (pan := some r0) (by simp; omega) henv hM (hlk i0 o ho) (hv i0 o e (by omega) ho he)
    by_cases hi : i = i0
    · subst hi
      obtain rfl : o' = o := Option.some.inj (ho'.symm.trans ho)
      exact h1
    · exact ih (i0 + 1) (by omega) (by omega) htr' (fun j o' hj => by
        have := hl (j + 1) o' (by simpa using hj)
        have e1 : i0 + 1 + j = i0 + (j + 1) := by omega
        rw [e1]; exact this) h2 h3 i o' (by omega) hi2 ho'
def EK.still (k : EK) : Bool := match k with
  | .new _ _ => true
  | .ins _ _ _ _ => true
  | _ => false
theorem stp_new {o : Oper} {e : ZEnt} {s' : XSt} (h : Stp E ops o e s') (hk : e.k.still = true) : e.t = .v .undef := by
  cases h with
  | skip => cases hk
  | val => cases hk
  | eff => cases hk
  | new => rfl
  | ins => rfl
theorem trd_new {l : List Oper} {s sf : XSt} {tr : List ZEnt} (h : TrD E ops l s tr sf) : ∀ (i : Nat) (e : ZEnt), tr[i]? = some e → e.k.still = true → e.t = .v .undef := by
  induction h with
  | nil s => intro i e he; simp at he
  | cons o r s s' sf e tr hs h ht ih =>
    intro i e' he hk
    rcases i with _ | i
    · simp at he; subst he; exact stp_new h hk
    · exact ih i e' (by simpa using he) hk
theorem trx_new {l : List Oper} {s m : XSt} {v : AVal} {tr : List ZEnt} (h : TrX E ops l s tr v m) : ∀ (i : Nat) (e : ZEnt), tr[i]? = some e → e.k.still = true → e.t = .v .undef := by
  induction h with
  | here o r s m v hg h =>
    intro i e he hk
    rcases i with _ | i
    · simp at he; subst he; rfl
    · simp at he
  | cons o r s s' m v e tr hs h ht ih =>
    intro i e' he hk
    rcases i with _ | i
    · simp at he; subst he; exact stp_new h hk
    · exact ih i e' (by simpa using he) hk
/-- The plan is in order. -/
theorem zplan_ok {A : List Nat} {h n : Nat} {hd : List Oper} {tr : List ZEnt} {s0 : XSt} {pan : Option Nat} (hn : n = ops.size) (hst : zstatic A ops (zenum ops.toList 0) = true) (hck : zchk E ops A hd h n tr s0 pan = true) (hhd : hd = ops.toList.take h) (hlen : tr.length ≤ h)
    (hpan : ∀ r, pan = some r → r < ops.size ∧ entE tr r = true) (hnew : ∀ (i : Nat) (e : ZEnt), tr[i]? = some e → e.k.still = true → e.t = .v .undef) : PlanOk ops (zplan A h tr s0 pan) := by
  obtain ⟨s1, s2, s3, s4⟩ := zstatic_ok hst
  simp only [zchk, Bool.and_eq_true] at hck
  obtain ⟨⟨c0, c1⟩, c2, c3, c4⟩ := hck
  have hhn : h ≤ ops.size := by rw [← hn]; exact Nat.le_of_ble_eq_true c0
  have hout : ∀ t, h ≤ t → tr[t]? = none := fun t ht => List.getElem?_eq_none (by omega)
  have hhead : ∀ (i : Nat) (o : Oper), i < h → ops[i]? = some o → hd[i]? = some o := fun i o hi ho => by
    rw [hhd, List.getElem?_take, if_pos hi, Array.getElem?_toList]; exact ho
  refine ⟨hhn, s1, s2, s3, fun i j hij hj hi' hj' => ?_, hpan, fun t j h1 h2 h3 => ?_, fun t ht => ?_, fun i nv hN => ?_, fun j i hI => ?_, fun i S S' hS => ?_⟩
  · have := zchain_ok A tr 0 c2 i j hij hi' hj'
    rw [Nat.zero_add, Nat.zero_add] at this
    exact this
  · exact ztail_ok c1 t j h1 (by rw [hn]; exact h2) h3
  · simp only [zplan, entE, hout t ht, and_self]
  · simp only [zplan] at hN
    cases he : tr[i]? with
    | none => rw [he] at hN; cases hN
    | some e =>
      rw [he] at hN
      have hN : e.k.nv = some nv := hN
      cases hk : e.k with
      | new nv' blk =>
        refine ⟨by simp only [zplan, entE, he, hk]; rfl, by simp only [zplan, he, hk]; rfl, by simp only [zplan, he]; exact hnew i e he (by rw [hk]; rfl), fun j hj hji d hd' hdj => ?_⟩
        have hil : i < h := Nat.lt_of_lt_of_le (List.getElem?_eq_some_iff.1 he).1 hlen
        have hjn : j < ops.size := Nat.lt_of_lt_of_le hj hhn
        have hin : i < ops.size := Nat.lt_of_lt_of_le hil hhn
        have hoi : ops[i]? = some ops[i] := by simp [hin]
        have hoj : ops[j]? = some ops[j] := by simp [hjn]
        have h5 := zall_ok c3 _ (by simpa using zip3_mem hd tr 0 i _ e (hhead i _ hil hoi) he)
        simp only [znew1, hk] at h5
        have hd2 : ops[i].dst = some d := by simpa [dstOf, hoi] using hd'
        have hd3 : ops[j].dst = some d := by simpa [dstOf, hoj] using hdj
        simp only [znew2, hd2] at h5
        have h6 := zall_ok h5 _ (by simpa using zenum_mem hd 0 j _ (hhead j _ hj hoj))
        have h7 : Nat.beq j i = false := by
          rw [Bool.eq_false_iff]
          intro h; exact hji (Nat.eq_of_beq_eq_true h)
        simp only [h7, cond_false, hd3, zis] at h6
        simp at h6
      | skip => rw [hk] at hN; cases hN
      | val => rw [hk] at hN; cases hN
      | eff => rw [hk] at hN; cases hN
      | pan => rw [hk] at hN; cases hN
      | ins => rw [hk] at hN; cases hN
  · simp only [zplan] at hI
    cases he : tr[j]? with
    | none => rw [he] at hI; cases hI
    | some e =>
      rw [he] at hI
      have hI : e.k.im = some i := hI
      have hjl : j < h := Nat.lt_of_lt_of_le (List.getElem?_eq_some_iff.1 he).1 hlen
      have hjn : j < ops.size := Nat.lt_of_lt_of_le hjl hhn
      have hoj : ops[j]? = some ops[j] := by simp [hjn]
      cases hk : e.k with
      | ins m kt k v =>
        rw [hk] at hI
        have hmi : m = i := by simpa [EK.im] using hI
        subst hmi
        have h5 := zall_ok c4 _ (by simpa using zip3_mem hd tr 0 j _ e (hhead j _ hjl hoj) he)
        simp only [zval1, hk, Bool.and_eq_true] at h5
        refine ⟨by simp only [zplan, entE, he, hk]; rfl, by simp only [zplan, he, hk]; rfl, by simp only [zplan, he]; exact hnew j e he (by rw [hk]; rfl), ?_, by simp only [zplan]; rw [← zbit_eq]; exact h5.1.1⟩
        have h6 := h5.1.2
        unfold zmsNew at h6
        split at h6
        · rename_i em hem
          split at h6
          · rename_i l0 hk0
            simp only [zplan, hem, hk0]; rfl
          · cases h6
        · cases h6
      | new => rw [hk] at hI; cases hI
      | skip => rw [hk] at hI; cases hI
      | val => rw [hk] at hI; cases hI
      | eff => rw [hk] at hI; cases hI
      | pan => rw [hk] at hI; cases hI
  · simp only [zplan]
    split
    · refine zcont_congr fun j e hj hm => hS j ?_
      simp only [zplan, hj, hm]
    · rfl
theorem zadopt_ok {A : List Nat} {h : Nat} {tr0 : List ZEnt} {s0 : XSt} : ∀ (l : List Oper) (tr : List ZEnt) (i0 : Nat) {s s' : XSt}, zadopt tr0 l tr i0 s = some s' → tr0.length ≤ h → tr0.drop i0 = tr → tr.length = l.length → (∀ (j : Nat) (o : Oper), l[j]? = some o → ops[i0 + j]? = some o) →
    s'.st = (List.range' i0 l.length).foldl ((zplan A h tr0 s0 none).adopt ops) s.st
  | [], tr, i0, s, s', hz, _, _, _, _ => by
    cases tr <;> (cases hz; rfl)
  | o :: r, [], i0, s, s', hz, _, _, hl, _ => by simp at hl
  | o :: r, e :: tr, i0, s, s', hz, hlh, htr, hl, ho => by
    obtain ⟨he, htr'⟩ := drop_head htr
    have ho0 : ops[i0]? = some o := by simpa using ho 0 o rfl
    have hrest : ∀ (j : Nat) (o' : Oper), r[j]? = some o' → ops[i0 + 1 + j]? = some o' := fun j o' hj => by
      have := ho (j + 1) o' (by simpa using hj)
      have e1 : i0 + 1 + j = i0 + (j + 1) := by omega
      rw [e1]; exact this
    simp only [List.length_cons, List.range'_succ, List.foldl_cons]
    have hN : (zplan A h tr0 s0 none).N i0 = e.k.nv := by simp only [zplan, he]
    simp only [zadopt] at hz
    split at hz
    · rename_i nv blk hk
      split at hz
      · rename_i s1 hs1
        have ih := zadopt_ok (A := A) (h := h) (tr0 := tr0) (s0 := s0) r tr (i0 + 1) hz hlh htr' (by simpa using hl) hrest
        rw [ih]
        congr 1
        unfold zadopt1 at hs1
        rw [zput_eq] at hs1
        split at hs1
        · rename_i s2 hs2
          rw [XSt.alloc_eq hs1, XSt.put_eq hs2]
          have hnx : s.st.heap.next = s.next := rfl
          have hc : (zplan A h tr0 s0 none).cont i0 (fun j => decide (j < (zplan A h tr0 s0 none).h)) = zcont blk tr0 i0 (fun _ => true) := by
            have h1 : (zplan A h tr0 s0 none).cont i0 (fun j => decide (j < (zplan A h tr0 s0 none).h)) = zcont blk tr0 i0 (fun j => decide (j < h)) := by simp only [zplan, he, hk]; rfl
            rw [h1]
            refine zcont_congr fun j e' hj _ => ?_
            have := (List.getElem?_eq_some_iff.1 hj).1
            simp; omega
          simp only [Plan.adopt, hN, hk, EK.nv, hc, hnx]
          unfold putE
          rw [ho0, Option.bind_some]
          cases o.dst <;> rfl
        · cases hs1
      · cases hz
    · rename_i hk
      have ih := zadopt_ok (A := A) (h := h) (tr0 := tr0) (s0 := s0) r tr (i0 + 1) hz hlh htr' (by simpa using hl) hrest
      rw [ih]
      congr 1
      have : e.k.nv = none := by
        cases hkk : e.k with
        | new nv blk => exact absurd hkk (hk nv blk)
        | _ => rfl
      simp only [Plan.adopt, hN, this]
theorem zdraw_ok (hE : EOk E) (hm : E.P.follows .mixedOrders = true) : ZDrOk E (zdraw E) := fun c hc id ops s x s' hz => by
  have hz1 : zdr1 E ops id ops.toList (zanc ops.toList []) ops.toList.length (not (zchainB (zanc ops.toList []) (xIdx E.T ops.toList 0))) c s = .ok x s' := hz
  generalize zanc ops.toList [] = A at hz1
  generalize (not (zchainB A (xIdx E.T ops.toList 0))) = un at hz1
  unfold zdr1 at hz1
  cases hst : zstatic A ops (zenum ops.toList 0) with
  | false => rw [hst] at hz1; cases hz1
  | true =>
    rw [hst, cond_true] at hz1
    generalize (cond un (zhd A ops.toList.length) ops.toList.length) = h at hz1
    have hn : ops.toList.length = ops.size := Array.length_toList
    have hz3 : zdr3 E ops id A h ops.toList.length ops.toList (zwalk E ops un id (ops.toList.take h) c s) c s = .ok x s' := hz1
    have htrc := zwalk_ok hE hc (ops := ops) (useN := un) (id := id) (ops.toList.take h) s
    obtain ⟨_, _, _, hlk⟩ := zstatic_ok hst
    have hout : ∀ (j : Nat) (o : Oper), (ops.toList.take h)[j]? = some o → j < h ∧ ops[j]? = some o := fun j o hj => by
      rw [List.getElem?_take] at hj
      split at hj
      · rename_i hjh
        rw [Array.getElem?_toList] at hj
        exact ⟨hjh, hj⟩
      · cases hj
    unfold zdr3 at hz3
    split at hz3
    · rename_i tr sf hw
      have htd := Trc.done htrc hw
      have hlen := htd.len
      cases hck : zchk E ops A (ops.toList.take h) h ops.toList.length tr s none with
      | false => rw [hck] at hz3; cases hz3
      | true =>
        rw [hck, cond_true] at hz3
        have hhn : h ≤ ops.size := by
          simp only [zchk, Bool.and_eq_true] at hck
          rw [← hn]; exact Nat.le_of_ble_eq_true hck.1.1
        have hl : (ops.toList.take h).length = h := by simp; omega
        have htl : tr.length = h := hlen.trans hl
        have hp := zplan_ok (E := E) (pan := none) hn hst hck rfl (by omega) (fun r hr => by cases hr) (trd_new htd)
        have hv : ∀ i o e, i < h → ops[i]? = some o → tr[i]? = some e → zval1 E ops A tr s ops.toList.length none (i, o, e) = true := fun i o e hi ho he => by
          simp only [zchk, Bool.and_eq_true] at hck
          exact zall_ok hck.2.2.2 _ (by simpa using zip3_mem (ops.toList.take h) tr 0 i o e (by rw [List.getElem?_take, if_pos hi, Array.getElem?_toList]; exact ho) he)
        have h00 : (zplan A h tr s none).ord ops 0 = 0 := by
          unfold Plan.ord
          rw [cnt_congr (q := fun _ => false) fun j hj => by simp]
          have : ∀ n, cnt (fun _ => false) n = 0 := by
            intro n
            induction n with
            | zero => rfl
            | succ n ih => simp only [cnt, ih]; rfl
          exact this _
        have henv0 : s.st.env = (zplan A h tr s none).env ops s.st.env 0 := by
          unfold Plan.env
          rw [envN_congr (lis' := fun _ => false) fun j hj => by simp]
          have : ∀ n, envN ops (zplan A h tr s none).D s.st.env (fun _ => false) n = s.st.env := by
            intro n
            induction n with
            | zero => rfl
            | succ n ih => simp only [envN]; exact ih
          exact (this _).symm
        obtain ⟨h1, h2, h3⟩ := trd_sem (pv := .undef) (Mp := ([], { next := 0, get := fun _ => none })) hE hn hlk hv htd 0 (by omega) (by simp) (fun j o hj => by
          have := (hout j o hj).2
          simpa using this) henv0 (fun k => by rw [h00, Nat.zero_add])
        rw [hl, Nat.zero_add] at h2 h3
        unfold zdr4 at hz3
        split at hz3
        · rename_i s1 hs1
          have had := zadopt_ok (A := A) (h := h) (tr0 := tr) (s0 := s) (ops.toList.take h) tr 0 hs1 (by omega) (by simp) hlen (fun j o hj => by
            have := (hout j o hj).2
            simpa using this)
          have htail := zops_ok hE hc (ops := ops) (id := id) (ops.toList.drop h) h (fun j => by rw [List.getElem?_drop, Array.getElem?_toList]) hz3
          have hcntE : cnt (zplan A h tr s none).E ops.size = (zplan A h tr s none).ord ops h := by
            unfold Plan.ord
            refine cnt_congr fun j hj => ?_
            by_cases hjh : j < h
            · simp [hjh]
            · rw [(hp.tailE j (by show h ≤ j; omega)).1]; simp
          refine AW.drawn (e0 := s.st.env) (loc := s.st.loc) (heap := s.st.heap) (pv := .undef) (Mp := ([], { next := 0, get := fun _ => none })) hm hp ?_ (fun i o hi ho _ => h1 i o (Nat.zero_le _) (by rw [hl, Nat.zero_add]; exact hi) ho) ?_
          · show mm (memAt tr s 0) = _
            rw [memAt_zero]; rfl
          · show AOps E.P E.G ops (IsEnd x s') (List.range' h (ops.size - h)) _
            have e1 : (ops.toList.drop h).length = ops.size - h := by simp
            rw [e1] at htail
            rw [had, hl, ← List.range_eq_range'] at htail
            have e2 : sf.st = ⟨envN ops (zplan A h tr s none).D s.st.env (fun j => decide (j < h)) ops.size, ((zplan A h tr s none).M (cnt (zplan A h tr s none).E ops.size)).1, ((zplan A h tr s none).M (cnt (zplan A h tr s none).E ops.size)).2⟩ := by
              have e3 : (zplan A h tr s none).M (cnt (zplan A h tr s none).E ops.size) = mm sf := by rw [hcntE]; exact h3
              rw [e3]
              have e4 : sf.st.env = envN ops (zplan A h tr s none).D s.st.env (fun j => decide (j < h)) ops.size := h2
              show sf.st = ⟨_, sf.st.loc, sf.st.heap⟩
              rw [← e4]
            rw [e2] at htail
            exact htail
        · cases hz3
    · rename_i tr v m hw
      have htx := Trc.exnd htrc hw
      obtain ⟨hpos, hlen⟩ := trx_len htx
      cases hck : (zchk E ops A ops.toList ops.toList.length ops.toList.length tr s (some (Nat.sub tr.length 1)) && zpanB A (Nat.sub tr.length 1) ops.toList.length) with
      | false => rw [hck] at hz3; cases hz3
      | true =>
        rw [hck, cond_true] at hz3
        cases hz3
        simp only [Bool.and_eq_true] at hck
        obtain ⟨hck, hpb⟩ := hck
        have hln : tr.length ≤ ops.size := by
          have : (ops.toList.take h).length ≤ ops.toList.length := by simp; omega
          omega
        have hr : Nat.sub tr.length 1 + 1 = tr.length := by show tr.length - 1 + 1 = _; omega
        generalize hr0 : Nat.sub tr.length 1 = r0 at *
        have hlast : entE tr r0 = true := by
          have : ∀ {l : List Oper} {s m : XSt} {v : AVal} {tr : List ZEnt}, TrX E ops l s tr v m → entE tr (tr.length - 1) = true := by
            intro l s m v tr h
            induction h with
            | here o r s m v hg h => rfl
            | cons o r s s' m v e tr hs h ht ih =>
              have h1 := (trx_len ht).1
              obtain ⟨k, hk⟩ : ∃ k, tr.length = k + 1 := ⟨tr.length - 1, by omega⟩
              simp only [List.length_cons, Nat.add_sub_cancel]
              rw [hk] at ih ⊢
              simp only [Nat.add_sub_cancel] at ih
              simpa [entE] using ih
          have h2 := this htx
          have : tr.length - 1 = r0 := hr0
          rwa [this] at h2
        have hp := zplan_ok (E := E) (pan := some r0) hn hst hck (by rw [List.take_length]) (by omega) (fun r hr' => by cases hr'; exact ⟨by omega, hlast⟩) (trx_new htx)
        have hv : ∀ i o e, i < ops.toList.length → ops[i]? = some o → tr[i]? = some e → zval1 E ops A tr s ops.toList.length (some r0) (i, o, e) = true := fun i o e hi ho he => by
          simp only [zchk, Bool.and_eq_true] at hck
          exact zall_ok hck.2.2.2 _ (by simpa using zip3_mem ops.toList tr 0 i o e (by rw [Array.getElem?_toList]; exact ho) he)
        have h00 : (zplan A ops.toList.length tr s (some r0)).ord ops 0 = 0 := by
          unfold Plan.ord
          rw [cnt_congr (q := fun _ => false) fun j hj => by simp]
          have : ∀ n, cnt (fun _ => false) n = 0 := by
            intro n
            induction n with
            | zero => rfl
            | succ n ih => simp only [cnt, ih]; rfl
          exact this _
        have henv0 : s.st.env = (zplan A ops.toList.length tr s (some r0)).env ops s.st.env 0 := by
          unfold Plan.env
          rw [envN_congr (lis' := fun _ => false) fun j hj => by simp]
          have : ∀ n, envN ops (zplan A ops.toList.length tr s (some r0)).D s.st.env (fun _ => false) n = s.st.env := by
            intro n
            induction n with
            | zero => rfl
            | succ n ih => simp only [envN]; exact ih
          exact (this _).symm
        have hsem := trx_sem (h := ops.toList.length) (r0 := r0) hE hn hlk hv htx 0 (by simp; omega) (by omega) (by simp) (fun j o hj => by
          have := (hout j o hj).2
          simpa using this) henv0 (fun k => by rw [h00, Nat.zero_add])
        refine AW.drawn (e0 := s.st.env) (loc := s.st.loc) (heap := s.st.heap) (pv := v) (Mp := mm m) hm hp ?_ (fun i o hi ho hnp => ?_) ?_
        · show mm (memAt tr s 0) = _
          rw [memAt_zero]; rfl
        · rcases Nat.lt_or_ge r0 i with h1 | h1
          · have hin : i < ops.toList.length := hi
            have h2 := zall_ok hpb i (zrng_mem _ _ _ (by show r0 + 1 ≤ i; omega) (by show i < r0 + 1 + (ops.toList.length - (r0 + 1)); omega))
            rw [zbit_eq] at h2
            have h3 : Nat.testBit (A.getD i 0) r0 = false := hnp r0 rfl
            rw [h3] at h2
            cases h2
          · exact hsem i o (Nat.zero_le _) h1 ho
        · refine ⟨rfl, ?_⟩
          have e1 : (zlost s m).st = ⟨tl s.n .nil (.v .undef), m.st.loc, m.st.heap⟩ := rfl
          rw [e1]
          have e2 : tl s.n (.nil : Tr TVal) (.v .undef) = List.replicate s.st.env.length (.v .undef) := by
            have : s.st.env.length = s.n := tl_length _ _ _
            rw [this]
            apply List.ext_getElem?
            intro i
            rw [tl_get, List.getElem?_replicate, Tr.get_nil]
            rfl
          rw [e2]
          rfl
    · cases hz3
end
end Go.Abs
namespace Go.Abs
/-- The first pieces of a text, run; the rest is left. -/
noncomputable def zpre1 (r : XR) (b : Code) (k : Code → XSt → Option (Code × XSt)) : Option (Code × XSt) := match r with
  | .ok .normal s => k b s
  | _ => none
noncomputable def zpre (E : XE) (dr : Nat → Array Oper → ZK) (rounds : Nat) (c : XCaller) : Nat → Code → XSt → Option (Code × XSt)
  | 0, code, s => some (code, s)
  | k + 1, code, s => match code with
    | .seq a b => zpre1 (zcode E dr rounds a c s) b (zpre E dr rounds c k)
    | _ => none
theorem zpre_ok {E : XE} (hE : EOk E) {dr : Nat → Array Oper → ZK} (hdr : ZDrOk E dr) {rounds : Nat} {c : XCaller} (hc : CallOk E.P E.G c) : ∀ (k : Nat) (code : Code) {s : XSt} {rest : Code} {s' : XSt} {K : AExit → St → Prop}, zpre E dr rounds c k code s = some (rest, s') → AW E.P E.G rest K s'.st → AW E.P E.G code K s.st
  | 0, code, s, rest, s', K, h, hK => by cases h; exact hK
  | k + 1, code, s, rest, s', K, h, hK => by
    simp only [zpre] at h
    split at h
    · rename_i a b
      unfold zpre1 at h
      split at h
      · rename_i s1 hr
        refine AW.seq (AW.mono (zcode_ok hE hdr hc a hr) ?_)
        rintro x t ⟨rfl, rfl⟩
        exact zpre_ok hE hdr hc k b h hK
      · cases h
    · cases h
section
variable {P : Program} {G : Nat → Option (List AVal)} {st : St}
theorem AOps.one {ops : Array Oper} {K : AExit → St → Prop} {i : Nat} {rest : List Nat} {o : Oper} (ho : ops[i]? = some o) (hg : o.guard = none)
    (h : AO P G o (fun t s => AOps P G ops K rest (s.put o.dst t)) (fun v s => K (.panic v) s) st) : AOps P G ops K (i :: rest) st := AOps.step ho (fun σ lam w a hr => wanted_none hg _) h
theorem ev_tmp {st : St} {i : Nat} {t : TVal} (h : st.env[i]? = some t) : st.ev (.tmp i) = t := by simp [St.ev, h]
theorem put_env (st : St) (d : Nat) (t : TVal) : (st.put (some d) t).env = st.env.set d t := rfl
/-- Going through a map of which each entry bears the same number; a round does nothing but look whether it is more than none. -/
theorem AL.zeros {o90 o91 o100 o101 o102 o110 o111 : Oper} {X : Code} {L b c : Nat} {l : List (AVal × AVal)} {bs : List Nat} {t84 : TypeId} {n : Nat}
    (h90 : o90.op = .next (.tmp 78) false ∧ o90.dst = some 79 ∧ o90.guard = none) (h91 : o91.op = .extract (.tmp 79) 0 ∧ o91.dst = some 80 ∧ o91.guard = none)
    (h100 : o100.op = .entry (.tmp 78) ∧ o100.dst = some 81 ∧ o100.guard = none) (h101 : o101.op = .extract (.tmp 81) 1 ∧ o101.dst = some 82 ∧ o101.guard = none) (h102 : o102.op = .assign (.tmp 82) ∧ o102.dst = some 7 ∧ o102.guard = none)
    (h110 : o110.op = .move (.tmp 7) ∧ o110.dst = some 83 ∧ o110.guard = none) (h111 : o111.op = .binOp .gtr t84 (.tmp 83) (.const (.int .i64 0)) t84 ∧ o111.dst = some 84 ∧ o111.guard = none)
    (hz : ∀ p ∈ l, p.2 = .int .i64 0) (hlen : bs.length = l.length) (hlt : ∀ x ∈ bs, x < c) (hnd : bs.Nodup) : ∀ (m : Nat) (seen : List Nat) (st : St), (bs.filter fun x => !seen.contains x).length ≤ m → st.env.length = 85 → st.env[78]? = some (.lp L 0) → st.loc[L]? = some (.mit b c seen c) → st.heap.get b = some (.mp l bs c) →
      AL P G (.seq (.region 9 #[o90, o91] false) (.seq (.cond (.tmp 80) .skip (.exit 2)) (.block 3 (.seq (.region 10 #[o100, o101, o102] false) (.seq (.region 11 #[o110, o111] false) (.cond (.tmp 84) X .skip)))))) (fun x s => x = .exit 2 ∧ s.env.length = 85) st := by
  intro m
  induction m with
  | zero =>
    intro seen st hm he h78 hl hb
    refine AL.round (AW.seq (AW.region ?_))
    refine AOps.one (o := o90) rfl h90.2.2 (AO.nextMap h90.1 (ev_tmp h78) hl hb hlt (Nat.le_refl _) (fun h0 => ?_) (fun j k v n' hj hbj hns => ?_))
    · rw [h90.2.1]
      refine AOps.one (o := o91) rfl h91.2.2 (AVK.ao (AVK.extract h91.1 ?_))
      have e1 : (st.put (some 79) (.v (.tup [.bool false]))).ev (.tmp 79) = .v (.tup [.bool false]) := ev_tmp (by rw [put_env]; simp [he])
      rw [e1]
      refine AOps.nil ?_
      rw [h91.2.1]
      refine AW.seq (AW.cond (t := false) (ev_tmp (by rw [put_env]; simp [put_env, he])) (AW.exit ⟨rfl, ?_⟩))
      simp [put_env, he]
    · exfalso
      have : n' ∈ bs.filter fun x => !seen.contains x := by
        rw [List.mem_filter]
        exact ⟨List.mem_of_getElem? hbj, by simpa using hns⟩
      have h2 : bs.filter (fun x => !seen.contains x) = [] := List.length_eq_zero_iff.1 (by omega)
      rw [h2] at this
      cases this
  | succ m ih =>
    intro seen st hm he h78 hl hb
    refine AL.round (AW.seq (AW.region ?_))
    have hLl : L < st.loc.length := (List.getElem?_eq_some_iff.1 hl).1
    refine AOps.one (o := o90) rfl h90.2.2 (AO.nextMap h90.1 (ev_tmp h78) hl hb hlt (Nat.le_refl _) (fun h0 => ?_) (fun j k v n' hj hbj hns => ?_))
    · rw [h90.2.1]
      refine AOps.one (o := o91) rfl h91.2.2 (AVK.ao (AVK.extract h91.1 ?_))
      have e1 : (st.put (some 79) (.v (.tup [.bool false]))).ev (.tmp 79) = .v (.tup [.bool false]) := ev_tmp (by rw [put_env]; simp [he])
      rw [e1]
      refine AOps.nil ?_
      rw [h91.2.1]
      refine AW.seq (AW.cond (t := false) (ev_tmp (by rw [put_env]; simp [put_env, he])) (AW.exit ⟨rfl, ?_⟩))
      simp [put_env, he]
    · rw [h90.2.1]
      obtain rfl : v = .int .i64 0 := hz _ (List.mem_of_getElem? hj)
      refine AOps.one (o := o91) rfl h91.2.2 (AVK.ao (AVK.extract h91.1 ?_))
      rw [ev_tmp (t := .v (.tup [.bool true, k, .int .i64 0])) (by rw [put_env]; simp [he])]
      refine AOps.nil ?_
      rw [h91.2.1]
      refine AW.seq (AW.cond (t := true) (ev_tmp (by rw [put_env]; simp [put_env, he])) (AW.skip (AW.block (AW.seq (AW.region ?_)))))
      refine AOps.one (o := o100) rfl h100.2.2 (AVK.ao (AVK.entry (i := L) (b := b) (since := c) (seen := seen) (l := l) (bs := bs) (c := c) (j := j) (n := n') h100.1 (ev_tmp (by simp [put_env, List.getElem?_set, h78])) (by simp [St.put, hLl]) hb hj hbj ?_))
      rw [h100.2.1]
      refine AOps.one (o := o101) rfl h101.2.2 (AVK.ao (AVK.extract h101.1 ?_))
      rw [ev_tmp (t := .v (.tup [k, .int .i64 0])) (by rw [put_env]; simp [put_env, he])]
      rw [h101.2.1]
      refine AOps.one (o := o102) rfl h102.2.2 (AVK.ao (AVK.move (.inr h102.1) ?_))
      rw [ev_tmp (t := .v (.int .i64 0)) (by rw [put_env]; simp [put_env, he])]
      rw [h102.2.1]
      refine AOps.nil (AW.seq (AW.region ?_))
      refine AOps.one (o := o110) rfl h110.2.2 (AVK.ao (AVK.move (.inl h110.1) ?_))
      rw [ev_tmp (t := .v (.int .i64 0)) (by rw [put_env]; simp [put_env, he])]
      rw [h110.2.1]
      refine AOps.one (o := o111) rfl h111.2.2 (AVK.ao (AVK.binOp h111.1 (v := .int .i64 0) (u := .int .i64 0) (ev_tmp (by rw [put_env]; simp [put_env, he])) rfl ?_))
      rw [h111.2.1]
      show AOps _ _ _ _ _ _
      refine AOps.nil ?_
      refine AW.cond (t := false) (ev_tmp (by rw [put_env]; simp [put_env, he])) (AW.skip ?_)
      refine ih (seen ++ [n']) _ ?_ (by simp [put_env, he]) (by simp [put_env, List.getElem?_set, h78]) (by simp [St.put, hLl]) hb
      have hmem : n' ∈ bs.filter fun x => !seen.contains x := by
        rw [List.mem_filter]
        exact ⟨List.mem_of_getElem? hbj, by simpa using hns⟩
      have hsub : (bs.filter fun x => !(seen ++ [n']).contains x) = (bs.filter fun x => !seen.contains x).erase n' := by
        rw [List.Nodup.erase_eq_filter (show (bs.filter fun x => !seen.contains x).Nodup from hnd.filter _) n', List.filter_filter]
        refine List.filter_congr fun x _ => ?_
        by_cases hx : x = n' <;> simp [hx, bne]
        
      rw [hsub, List.length_erase_of_mem hmem]
      omega
end
end Go.Abs

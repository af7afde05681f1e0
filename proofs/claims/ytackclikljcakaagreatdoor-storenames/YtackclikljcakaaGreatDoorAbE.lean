/- Calls reckoned before; what is taken of a program; from a run of the evaluator to a row. For every program and every world; no condition. -/
import Derived.ChangeSame
import Derived.ChangeVars
import Derived.JoinedOf
import Derived.RowKit
import Derived.LaidLaws
import GoSem.ClaimSeven
import Derived.Test.YtackclikljcakaaGreatDoorAbD
/- Calls that have been reckoned before are answered as they were. -/
namespace Go.Ab
open Go
noncomputable section
variable {P : Program} [Idx P] {φ : Phi} {W : World}

/-! ### objects that say the same -/
def eqI (x y : Int) : Bool := match x, y with
  | .ofNat a, .ofNat b => Nat.beq a b
  | .negSucc a, .negSucc b => Nat.beq a b
  | _, _ => false
def kindNo : IntKind → Nat
  | .i8 => 0 | .i16 => 1 | .i32 => 2 | .i64 => 3 | .u8 => 4 | .u16 => 5 | .u32 => 6 | .u64 => 7
/-- As eqV, numbers first. -/
def eqQ (v w : Value) : Bool := match v, w with
  | .int j x, .int k y => Nat.beq (kindNo j) (kindNo k) && eqI x y
  | v, w => eqV 50 v w
theorem eqQ_eq {v w : Value} (h : eqQ v w = true) : v = w := by
  unfold eqQ at h
  split at h
  · simp only [Bool.and_eq_true] at h
    obtain ⟨h1, h2⟩ := h
    rename_i j x k y
    have hj : j = k := by
      have := Nat.eq_of_beq_eq_true h1
      cases j <;> cases k <;> first | rfl | (simp [kindNo] at this)
    have hx : x = y := by
      unfold eqI at h2
      split at h2
      · rw [Nat.eq_of_beq_eq_true h2]
      · rw [Nat.eq_of_beq_eq_true h2]
      · cases h2
    rw [hj, hx]
  · exact eqV_eq 50 _ _ h
/-- The cells from i on (these, with what was stored since) are these values. -/
def sameRow (ov : T Value) : List Value → List Value → Nat → Bool
  | [], [], _ => true
  | v :: l, w :: k, i => (match ov.get i with | some u => eqQ u w | none => eqQ v w) && sameRow ov l k (i + 1)
  | _, _, _ => false
def sameEs : List MapEntry → List MapEntry → Bool
  | [], [] => true
  | e :: l, e' :: l' => eqV 50 e.key e'.key && eqV 50 e.val e'.val && Nat.beq e.born e'.born && sameEs l l'
  | _, _ => false
/-- Does the first say what the second says (a recorded one)? -/
def eqObj (a b : AObj) : Bool := match a, b with
  | .cells c, .cells d => (match d.over with | .nil => true | _ => false) && Nat.beq d.base.length d.size && Nat.beq c.size d.size && c.ro == d.ro && sameRow c.over c.base d.base 0
  | .map es k, .map es' k' => Nat.beq k k' && sameEs es.toList es'.toList
  | .deferred x, .deferred y => x == y
  | _, _ => false

/-- Two objects that no run tells apart. -/
inductive OEq : AObj → AObj → Prop
  | refl (a : AObj) : OEq a a
  | cells {c d : Cells} (hs : c.size = d.size) (hr : c.ro = d.ro) (hl : d.base.length = d.size) (hl' : c.base.length = c.size) (hg : ∀ i, i < c.size → c.get i = d.get i) (hd : ∀ i v, c.get i = some v → i < c.size) (hd' : ∀ i v, d.get i = some v → i < d.size) : OEq (.cells c) (.cells d)
theorem OEq.symm {a b : AObj} (h : OEq a b) : OEq b a := by
  cases h with
  | refl => exact .refl _
  | cells hs hr hl hl' hg hd hd' => exact .cells hs.symm hr.symm hl' hl (fun i hi => (hg i (by omega)).symm) hd' hd
theorem OEq.writable {a b : AObj} (h : OEq a b) : a.writable = b.writable := by
  cases h with
  | refl => rfl
  | cells hs hr => simp only [AObj.writable, hr]
theorem OEq.robj {a b : AObj} (h : OEq a b) {B : Nat} {o : Off} (r : RObj φ W a B o) : RObj φ W b B o := by
  cases h with
  | refl => exact r
  | cells hs hr hl hl' hg hd hd' =>
    rename_i c d
    obtain ⟨arr, t, fr, hw, rc⟩ := r
    refine ⟨arr, t, fr, hw, hl, hd', fun i hi => ?_, rc.top, fun hro => rc.free (by rw [hr]; exact hro)⟩
    obtain ⟨v', h1, h2⟩ := rc.val i (by omega)
    exact ⟨v', h1, fun v hv => h2 v (by rw [hg i (by omega)]; exact hv)⟩

theorem sameRow_spec {ov : T Value} : ∀ {l k : List Value} {i : Nat}, sameRow ov l k i = true → l.length = k.length ∧ ∀ j, j < l.length → (match ov.get (i + j) with | some u => some u | none => l[j]?) = k[j]?
  | [], [], _, _ => ⟨rfl, fun j hj => by simp at hj⟩
  | [], _ :: _, _, h => by cases h
  | _ :: _, [], _, h => by cases h
  | v :: l, w :: k, i, h => by
    simp only [sameRow, Bool.and_eq_true] at h
    obtain ⟨h1, h2⟩ := h
    obtain ⟨h3, h4⟩ := sameRow_spec h2
    refine ⟨by simp [h3], fun j hj => ?_⟩
    cases j with
    | zero =>
      rw [Nat.add_zero]
      cases hc : ov.get i with
      | none => rw [hc] at h1; simp [eqQ_eq h1]
      | some u => rw [hc] at h1; simp [eqQ_eq h1]
    | succ j =>
      have := h4 j (by simpa using hj)
      rw [show i + (j + 1) = i + 1 + j by omega]
      simpa using this
theorem sameEs_eq : ∀ {l l' : List MapEntry}, sameEs l l' = true → l = l'
  | [], [], _ => rfl
  | [], _ :: _, h => by cases h
  | _ :: _, [], h => by cases h
  | e :: l, e' :: l', h => by
    simp only [sameEs, Bool.and_eq_true] at h
    obtain ⟨⟨⟨h1, h2⟩, h3⟩, h4⟩ := h
    rw [sameEs_eq h4]
    obtain ⟨k, v, b⟩ := e
    obtain ⟨k', v', b'⟩ := e'
    have h3 : b = b' := Nat.eq_of_beq_eq_true h3
    have h1 : k = k' := eqV_eq _ _ _ h1
    have h2 : v = v' := eqV_eq _ _ _ h2
    rw [h1, h2, h3]
/-- (Of objects that lie somewhere.) -/
theorem eqObj_spec {a b : AObj} (h : eqObj a b = true) {B : Nat} {o : Off} (r : RObj φ W a B o) : OEq a b := by
  cases a with
  | cells c =>
    cases b with
    | cells d =>
      simp only [eqObj, Bool.and_eq_true, beq_iff_eq] at h
      obtain ⟨⟨⟨⟨ho, hb⟩, hs⟩, hc⟩, hrow⟩ := h
      have hb := Nat.eq_of_beq_eq_true hb
      have hs := Nat.eq_of_beq_eq_true hs
      obtain ⟨h1, h2⟩ := sameRow_spec hrow
      obtain ⟨arr, t, fr, hw, rc⟩ := r
      have hlc := rc.len
      have hov : d.over = .nil := by
        cases hq : d.over with
        | nil => rfl
        | node => rw [hq] at ho; cases ho
      have hdg : ∀ i, d.get i = d.base[i]? := fun i => by rw [Cells.get_def, hov, T.get_nil]
      refine .cells hs hc hb rc.len (fun i hi => ?_) rc.dom fun i v hv => ?_
      · have := h2 i (by omega)
        rw [Nat.zero_add] at this
        rw [hdg, Cells.get_def]; exact this
      · rw [hdg] at hv
        have := (List.getElem?_eq_some_iff.1 hv).1
        omega
    | _ => cases h
  | map es k =>
    cases b with
    | map es' k' =>
      simp only [eqObj, Bool.and_eq_true] at h
      have h1 := Nat.eq_of_beq_eq_true h.1
      have h2 := sameEs_eq h.2
      subst h1
      have : es = es' := Array.ext' h2
      subst this
      exact .refl _
    | _ => cases h
  | deferred x =>
    cases b with
    | deferred y =>
      simp only [eqObj, beq_iff_eq] at h
      subst h
      exact .refl _
    | _ => cases h
  | _ => cases b <;> cases h

/-- Two heaps that say the same. -/
def LEq (h k : Look) : Prop := ∀ b, (h b = none ∧ k b = none) ∨ ∃ x y, h b = some x ∧ k b = some y ∧ OEq x y
theorem LEq.symm {h k : Look} (e : LEq h k) : LEq k h := fun b => (e b).imp (fun ⟨x, y⟩ => ⟨y, x⟩) fun ⟨x, y, hx, hy, o⟩ => ⟨y, x, hy, hx, o.symm⟩
theorem LEq.some {h k : Look} (e : LEq h k) {b : Nat} {y : AObj} (hb : k b = some y) : ∃ x, h b = some x ∧ OEq x y := by
  rcases e b with ⟨_, h2⟩ | ⟨x, y', h1, h2, o⟩
  · rw [hb] at h2; cases h2
  · rw [hb] at h2; cases h2; exact ⟨x, h1, o⟩
theorem Sim.leq {h k : Look} (s : Sim φ h W) (e : LEq h k) : Sim φ k W where
  obj b ob hb := by
    obtain ⟨x, hx, o⟩ := e.some hb
    obtain ⟨B, of, h1, h2⟩ := s.obj b x hx
    exact ⟨B, of, h1, o.robj h2⟩
  inj b c B o p hb hc := by
    obtain ⟨ob, e1⟩ := Option.isSome_iff_exists.1 hb
    obtain ⟨oc, e2⟩ := Option.isSome_iff_exists.1 hc
    obtain ⟨x, hx, _⟩ := e.some e1
    obtain ⟨y, hy, _⟩ := e.some e2
    exact s.inj b c B o p (by simp [hx]) (by simp [hy])
theorem Own.leq {h k : Look} (e : LEq h k) {B : Nat} (o : Own k φ B) : Own h φ B := by
  obtain ⟨b, ob, p, hb, hw, hφ⟩ := o
  obtain ⟨x, hx, oe⟩ := e.some hb
  exact ⟨b, x, p, hx, by rw [oe.writable]; exact hw, hφ⟩
theorem Grew.leq {φ' : Phi} {h k h' k' : Look} {W' : World} {n n' : Nat} (g : Grew φ h W n φ' h' W' n') (e : LEq h k) (e' : LEq h' k') (hro : ∀ b ob, k' b = some ob → ob.writable = false → k b = some ob) : Grew φ k W n φ' k' W' n' :=
  ⟨g.le, g.dom, g.next, g.os, g.tape, g.output, g.size, fun B hB ho => (g.frame B hB fun o => ho (Own.leq e.symm o)).imp_right fun h o => h (Own.leq e' o), hro⟩

/-! ### what has been reckoned -/
structure Entry where
  f : FuncId
  args : List Value
  nx : Nat
  pre : List (Nat × AObj)
  v : Value
  ups : Ups
  nx' : Nat
def treeOf : List (Nat × AObj) → T (Option AObj)
  | [] => .nil
  | (b, ob) :: l => (treeOf l).set b (some ob)
def Entry.start (e : Entry) : St := { top := treeOf e.pre, next := e.nx }
def hereAll (h : Look) : List (Nat × AObj) → Bool
  | [] => true
  | (b, ob) :: l => (match h b with | some x => eqObj x ob | none => false) && hereAll h l
def hits (e : Entry) (f : FuncId) (args : List Value) (E : Env) (s : St) : Bool :=
  Nat.beq e.f f && Nat.beq e.nx s.next && E.isEmpty && eqL (eqV 50) args e.args && hereAll (s.look E) e.pre
def Entry.after (e : Entry) (s : St) : St := { s.up e.ups with next := e.nx' }
def answerOf (l : List Entry) (r : FuncId → List Value → Env → St → Res Value) (f : FuncId) (args : List Value) (E : Env) (s : St) : Res Value := match l with
  | [] => r f args E s
  | e :: l => if hits e f args E s then .ok e.v (e.after s) else answerOf l r f args E s
def withMemo (l : List Entry) (r : Fns) : Fns := { r with callF := answerOf l r.callF }
def fnsM (P : Program) [Idx P] (l : List Entry) : Nat → Fns
  | 0 => noFns
  | n + 1 => withMemo l (stepFns P (fnsM P l n))

def keyIn (b : Nat) : Ups → Bool
  | [] => false
  | (c, _) :: u => Nat.beq c b || keyIn b u
/-- Is all that it says it leaves there? -/
def leftUps (h : Look) : Ups → Bool
  | [] => true
  | (_, none) :: u => leftUps h u
  | (b, some ob) :: u => ob.writable && (match h b with | some x => eqObj x ob | none => false) && leftUps h u
/-- Is what it does not speak of as it was? -/
def leftPre (h : Look) (u : Ups) : List (Nat × AObj) → Bool
  | [] => true
  | (b, ob) :: l => (keyIn b u || (match h b with | some x => eqObj x ob | none => false)) && leftPre h u l
def endsAs (e : Entry) : Res Value → Bool
  | .ok v s => eqV 50 v e.v && Nat.ble s.next e.nx' && leftUps (s.look []) e.ups && leftPre (s.look []) e.ups e.pre
  | _ => false
def checks (r : Fns) (e : Entry) : Bool := endsAs e (r.callF e.f e.args [] e.start)

def EntryOk (P : Program) [Idx P] (e : Entry) : Prop := ∀ (args : List Value) (args' : Array Value) (E : Env) (s : St) (φ : Phi) (W : World), hits e e.f args E s = true → RL φ args args'.toList → Inv P φ (s.look E) s.next W →
  Does P (ToV P E φ s W (.ok e.v (e.after s))) ((callFunc e.f args').run P W)

theorem treeOf_get : ∀ (l : List (Nat × AObj)) (b : Nat), ((treeOf l).get b = none ∧ ∀ ob, (b, ob) ∉ l) ∨ ∃ ob, (b, ob) ∈ l ∧ (treeOf l).get b = some (some ob)
  | [], b => .inl ⟨rfl, fun _ h => by cases h⟩
  | (c, oc) :: l, b => by
    rw [treeOf, T.get_set]
    by_cases e : b = c
    · subst e; exact .inr ⟨oc, List.mem_cons_self, if_pos rfl⟩
    · rw [if_neg e]
      rcases treeOf_get l b with ⟨h1, h2⟩ | ⟨ob, h1, h2⟩
      · refine .inl ⟨h1, fun ob hm => ?_⟩
        cases hm with
        | head => exact e rfl
        | tail _ hm => exact h2 ob hm
      · exact .inr ⟨ob, List.mem_cons_of_mem _ h1, h2⟩
theorem start_look (e : Entry) (b : Nat) : (e.start.look [] b = none ∧ ∀ ob, (b, ob) ∉ e.pre) ∨ ∃ ob, (b, ob) ∈ e.pre ∧ e.start.look [] b = some ob := by
  rcases treeOf_get e.pre b with ⟨h1, h2⟩ | ⟨ob, h1, h2⟩
  · refine .inl ⟨?_, h2⟩
    simp only [St.look, lookE, Entry.start, h1]
  · refine .inr ⟨ob, h1, ?_⟩
    simp only [St.look, lookE, Entry.start, h2]
theorem hereAll_spec {h : Look} : ∀ {l : List (Nat × AObj)}, hereAll h l = true → ∀ b ob, (b, ob) ∈ l → ∃ x, h b = some x ∧ eqObj x ob = true
  | (b, ob) :: l, e, b', ob', hm => by
    simp only [hereAll, Bool.and_eq_true] at e
    cases hm with
    | head =>
      cases hq : h b with
      | none => rw [hq] at e; cases e.1
      | some x => rw [hq] at e; exact ⟨x, rfl, e.1⟩
    | tail _ hm => exact hereAll_spec e.2 b' ob' hm
theorem keyIn_spec {b : Nat} : ∀ {u : Ups}, keyIn b u = true ↔ ∃ o : Option AObj, (b, o) ∈ u
  | [] => by simp [keyIn]
  | (c, o) :: u => by
    simp only [keyIn, Bool.or_eq_true, keyIn_spec (u := u)]
    constructor
    · rintro (h | ⟨o', h⟩)
      · have := Nat.eq_of_beq_eq_true h; subst this; exact ⟨o, List.mem_cons_self⟩
      · exact ⟨o', List.mem_cons_of_mem _ h⟩
    · rintro ⟨o', h⟩
      cases h with
      | head => left; simp
      | tail _ h => exact .inr ⟨o', h⟩
theorem leftUps_spec {h : Look} : ∀ {u : Ups}, leftUps h u = true → ∀ b ob, (b, some ob) ∈ u → ob.writable = true ∧ ∃ x, h b = some x ∧ eqObj x ob = true
  | (c, none) :: u, e, b, ob, hm => by
    cases hm with
    | tail _ hm => exact leftUps_spec (u := u) e b ob hm
  | (c, some oc) :: u, e, b, ob, hm => by
    simp only [leftUps, Bool.and_eq_true] at e
    cases hm with
    | head =>
      refine ⟨e.1.1, ?_⟩
      cases hq : h c with
      | none => rw [hq] at e; cases e.1.2
      | some x => rw [hq] at e; exact ⟨x, rfl, e.1.2⟩
    | tail _ hm => exact leftUps_spec e.2 b ob hm
theorem leftPre_spec {h : Look} {u : Ups} : ∀ {l : List (Nat × AObj)}, leftPre h u l = true → ∀ b ob, (b, ob) ∈ l → keyIn b u = false → ∃ x, h b = some x ∧ eqObj x ob = true
  | (c, oc) :: l, e, b, ob, hm, hk => by
    simp only [leftPre, Bool.and_eq_true, Bool.or_eq_true] at e
    cases hm with
    | head =>
      have e1 := e.1.resolve_left (by rw [hk]; simp)
      cases hq : h c with
      | none => rw [hq] at e1; cases e1
      | some x => rw [hq] at e1; exact ⟨x, rfl, e1⟩
    | tail _ hm => exact leftPre_spec e.2 b ob hm hk
theorem up_cases (h : Look) : ∀ (u : Ups) (b : Nat), ((h.up u) b = h b ∧ ∀ o : Option AObj, (b, o) ∉ u) ∨ ∃ o : Option AObj, (b, o) ∈ u ∧ (h.up u) b = o
  | [], b => .inl ⟨rfl, fun _ hm => by cases hm⟩
  | (c, o) :: u, b => by
    rcases up_cases (fun d => if d = c then o else h d) u b with ⟨h1, h2⟩ | ⟨o', h1, h2⟩
    · by_cases e : b = c
      · subst e
        exact .inr ⟨o, List.mem_cons_self, by rw [Look.up, h1, if_pos rfl]⟩
      · refine .inl ⟨by rw [Look.up, h1, if_neg e], fun o' hm => ?_⟩
        cases hm with
        | head => exact e rfl
        | tail _ hm => exact h2 o' hm
    · exact .inr ⟨o', List.mem_cons_of_mem _ h1, h2⟩
theorem E_nil {E : Env} (h : E.isEmpty = true) : E = [] := by cases E <;> first | rfl | cases h

/-- What a run comes to, it comes to wherever what it looked at is there. -/
theorem entry_ok {r : Fns} (FO : FnsOk P r) {e : Entry} (hc : checks r e = true) : EntryOk P e := fun args args' E s φ W hh ha i => by
  simp only [hits, Bool.and_eq_true] at hh
  obtain ⟨⟨⟨⟨_, hnx⟩, hE⟩, hargs⟩, hpre⟩ := hh
  have hE := E_nil hE
  subst hE
  have hnx := Nat.eq_of_beq_eq_true hnx
  have hargs : args = e.args := eqL_eq (eqV_eq 50) hargs
  subst hargs
  have hpre := hereAll_spec hpre
  generalize hres : r.callF e.f e.args [] e.start = res at hc
  unfold checks at hc
  rw [hres] at hc
  cases res with
  | alt l => cases hc
  | bad => cases hc
  | ok v s' =>
    simp only [endsAs, Bool.and_eq_true] at hc
    obtain ⟨⟨⟨hv, hn'⟩, hU⟩, hL⟩ := hc
    have hv := eqV_eq 50 _ _ hv
    subst hv
    have hn' := Nat.le_of_ble_eq_true hn'
    have hU := leftUps_spec hU
    have hL := leftPre_spec hL
    -- the heap, with what was recorded in the place of what is there
    let K : Look := s.look []
    let k : Look := e.start.look []
    let Kw : Look := fun b => match k b with | some ob => some ob | none => K b
    have kK : ∀ b ob, k b = some ob → ∃ x, K b = some x ∧ OEq x ob := fun b ob hb => by
      rcases start_look e b with ⟨h1, _⟩ | ⟨ob', h1, h2⟩
      · rw [show k b = none from h1] at hb; cases hb
      · rw [show k b = some ob' from h2] at hb; cases hb
        obtain ⟨x, hx, hxo⟩ := hpre b _ h1
        obtain ⟨B, o, _, hr⟩ := i.sim.obj b x hx
        exact ⟨x, hx, eqObj_spec hxo hr⟩
    have hKw : LEq K Kw := fun b => by
      cases hk : k b with
      | none =>
        cases hK : K b with
        | none => exact .inl ⟨rfl, by simp only [Kw, hk, hK]⟩
        | some x => exact .inr ⟨x, x, rfl, by simp only [Kw, hk, hK], .refl _⟩
      | some ob =>
        obtain ⟨x, hx, ho⟩ := kK b ob hk
        exact .inr ⟨x, ob, hx, by simp only [Kw, hk], ho⟩
    have sKw : Sim φ Kw W := i.sim.leq hKw
    have hsub : k.sub Kw := fun b ob hb => by simp only [Kw, hb]
    have i0 : Inv P φ (e.start.look []) e.start.next W := ⟨sKw.sub hsub, fun b hb => i.fresh b (by have : e.nx ≤ b := hb; omega), i.globs⟩
    have hd := FO.callF e.f e.args args' [] e.start φ W ha i0 (by rw [hres]; simp)
    rw [hres] at hd
    refine hd.mono fun v' W' ⟨vv, s2, φ', hm, rv, t⟩ => ?_
    simp only [Res.list, List.mem_singleton, Prod.mk.injEq] at hm
    obtain ⟨rfl, rfl⟩ := hm
    let k' : Look := s2.look []
    have t2 : Grew φ k W e.nx φ' k' W' s2.next := t.2
    have sk' : Sim φ' k' W' := t.1.sim
    -- behind it
    let Kf : Look := K.up e.ups
    have hKf : (e.after s).look [] = Kf := by
      have : (s.up e.ups).look [] = Kf := St.look_up [] e.ups s
      exact this
    let Ke : Look := fun b => match Kf b with
      | none => none
      | some _ => if keyIn b e.ups || (k b).isSome then k' b else K b
    have inK' : ∀ b, keyIn b e.ups = true → ∀ y, Kf b = some y → ∃ x, k' b = some x ∧ OEq x y ∧ x.writable = true := fun b hkb y hy => by
      rcases up_cases K e.ups b with ⟨_, h2⟩ | ⟨o, h1, h2⟩
      · obtain ⟨o, ho⟩ := keyIn_spec.1 hkb; exact absurd ho (h2 o)
      · rw [show Kf b = o from h2] at hy; subst hy
        obtain ⟨hyw, x, hx, hxo⟩ := hU b y h1
        obtain ⟨B, o, _, hr⟩ := sk'.obj b x hx
        have ho := eqObj_spec hxo hr
        exact ⟨x, hx, ho, by rw [ho.writable]; exact hyw⟩
    have outK' : ∀ b, keyIn b e.ups = false → Kf b = K b := fun b hkb => by
      rcases up_cases K e.ups b with ⟨h1, _⟩ | ⟨o, h1, _⟩
      · exact h1
      · have := keyIn_spec.2 ⟨o, h1⟩; rw [hkb] at this; cases this
    have preK' : ∀ b ob, keyIn b e.ups = false → k b = some ob → ∃ x, k' b = some x ∧ OEq x ob := fun b ob hkb hb => by
      rcases start_look e b with ⟨h1, _⟩ | ⟨ob', h1, h2⟩
      · rw [show k b = none from h1] at hb; cases hb
      · rw [show k b = some ob' from h2] at hb; cases hb
        obtain ⟨x, hx, hxo⟩ := hL b _ h1 hkb
        obtain ⟨B, o, _, hr⟩ := sk'.obj b x hx
        exact ⟨x, hx, eqObj_spec hxo hr⟩
    have hKe : LEq Ke Kf := fun b => by
      cases hy : Kf b with
      | none => exact .inl ⟨by simp only [Ke, hy], rfl⟩
      | some y =>
        cases hkb : keyIn b e.ups with
        | true =>
          obtain ⟨x, hx, ho, _⟩ := inK' b hkb y hy
          exact .inr ⟨x, y, by simp only [Ke, hy, hkb, Bool.true_or, if_true, hx], rfl, ho⟩
        | false =>
          have hKy : K b = some y := by rw [← outK' b hkb]; exact hy
          cases hk : k b with
          | none => exact .inr ⟨y, y, by simp [Ke, hy, hkb, hk, hKy], rfl, .refl _⟩
          | some ob =>
            obtain ⟨x, hx, ho⟩ := preK' b ob hkb hk
            obtain ⟨y', hy', ho'⟩ := kK b ob hk
            rw [hKy] at hy'; cases hy'
            refine .inr ⟨x, y, by simp [Ke, hy, hkb, hk, hx], rfl, ?_⟩
            -- both say what was recorded
            cases ho with
            | refl => exact ho'.symm
            | cells hs hr hl hl' hg hd1 hd2 =>
              cases ho' with
              | refl => exact .cells hs hr hl hl' hg hd1 hd2
              | cells hs2 hr2 hl2 hl2' hg2 hd3 hd4 => exact .cells (by omega) (by rw [hr, hr2]) hl2' hl' (fun j hj => by rw [hg j hj, hg2 j (by omega)]) hd1 hd3
    obtain ⟨sm, gr⟩ := sKw.extend hsub sk' t2 (K' := Ke) fun b ob hb => by
      simp only [Ke] at hb
      cases hy : Kf b with
      | none => rw [hy] at hb; cases hb
      | some y =>
        rw [hy] at hb
        simp only at hb
        split at hb
        · exact .inl hb
        · rename_i hno
          simp only [Bool.or_eq_true, not_or, Bool.not_eq_true, Option.isSome_eq_false_iff, Option.isNone_iff_eq_none] at hno
          exact .inr ⟨by simp only [Kw, hno.2]; exact hb, hno.2⟩
    have hs2 : s2.next ≤ e.nx' := hn'
    refine ⟨e.v, e.after s, φ', List.mem_singleton.2 rfl, rv, ⟨by rw [hKf]; exact sm.leq hKe, fun b hb => t.1.fresh b (by have : e.nx' ≤ b := hb; omega), t.1.globs⟩, ?_⟩
    rw [hKf]
    have gr2 : Grew φ K W e.nx φ' Kf W' s2.next := gr.leq hKw.symm hKe fun b ob hb hw => by
      cases hkb : keyIn b e.ups with
      | true =>
        obtain ⟨x, hx, ho, hxw⟩ := inK' b hkb ob hb
        rw [← ho.writable, hxw] at hw; cases hw
      | false => rw [outK' b hkb] at hb; exact hb
    exact gr2.widen (Nat.le_of_eq hnx.symm) hs2

theorem answerOf_ok {r : Fns} (FO : FnsOk P r) : ∀ {l : List Entry}, (∀ e ∈ l, EntryOk P e) → ∀ (f : FuncId) (args : List Value) (args' : Array Value) (E : Env) (s : St) (φ : Phi) (W : World), RL φ args args'.toList → Inv P φ (s.look E) s.next W → answerOf l r.callF f args E s ≠ .bad →
    Does P (ToV P E φ s W (answerOf l r.callF f args E s)) ((callFunc f args').run P W)
  | [], _, f, args, args', E, s, φ, W, ha, i, h => FO.callF f args args' E s φ W ha i h
  | e :: l, hl, f, args, args', E, s, φ, W, ha, i, h => by
    unfold answerOf at h ⊢
    cases hh : hits e f args E s with
    | true =>
      rw [if_pos rfl]
      have hf : e.f = f := by
        simp only [hits, Bool.and_eq_true] at hh
        exact Nat.eq_of_beq_eq_true hh.1.1.1.1
      subst hf
      exact hl e List.mem_cons_self args args' E s φ W hh ha i
    | false =>
      rw [hh, if_neg (by simp)] at h
      rw [if_neg (by simp)]
      exact answerOf_ok FO (fun e' he' => hl e' (List.mem_cons_of_mem _ he')) f args args' E s φ W ha i h
theorem withMemo_ok {r : Fns} (FO : FnsOk P r) {l : List Entry} (hl : ∀ e ∈ l, EntryOk P e) : FnsOk P (withMemo l r) :=
  ⟨FO.code, FO.loop, FO.scope, fun f args args' E s φ W ha i h => answerOf_ok FO hl f args args' E s φ W ha i h⟩
theorem step_fns_ok (F : Fit P) (X : FitExt P) {r : Fns} (R : FnsOk P r) : FnsOk P (stepFns P r) :=
  have D := drawn_ok F F.mixed
  ⟨fun c rnd a E s N G φ act W Fc => code_ok R D F c rnd a E s N G φ act W Fc, fun c rnd a E s N G φ act W Fc => loop_ok R c rnd a E s N G φ act W Fc, fun c rnd a E s N G φ act W Fc => scope_ok R c rnd a E s N G φ act W Fc,
   fun _f _args _args' _E _s _φ _W ha i h => callF_ok R F X ha i h⟩
omit [Idx P] in
theorem no_fns_ok : FnsOk P noFns :=
  ⟨fun _ _ _ _ _ _ _ _ _ _ _ _ _ _ _ _ h => absurd rfl h, fun _ _ _ _ _ _ _ _ _ _ _ _ _ _ _ _ h => absurd rfl h, fun _ _ _ _ _ _ _ _ _ _ _ _ _ _ _ _ h => absurd rfl h, fun _ _ _ _ _ _ _ _ _ h => absurd rfl h⟩
theorem fnsM_ok (F : Fit P) (X : FitExt P) {l : List Entry} (hl : ∀ e ∈ l, EntryOk P e) : ∀ n, FnsOk P (fnsM P l n)
  | 0 => no_fns_ok
  | n + 1 => withMemo_ok (step_fns_ok F X (fnsM_ok F X hl n)) hl
end
end Go.Ab
/- Short words for recorded values and objects. -/
namespace Go.Ab.W
open Go Go.Ab
def i (n : Nat) : Value := .int .i64 (.ofNat n)
def j (n : Nat) : Value := .int .i64 (.negSucc n)
def n (k : IntKind) (x : Nat) : Value := .int k (.ofNat x)
def nn (k : IntKind) (x : Nat) : Value := .int k (.negSucc x)
def yes : Value := .bool true
def no : Value := .bool false
def st (l : List UInt8) : Value := .string ⟨⟨l⟩⟩
def np : Value := .pointer none
def p (b o : Nat) : Value := .pointer (some ⟨b, o, none⟩)
def ns : Value := .slice none 0 0
def sl (b o n c : Nat) : Value := .slice (some ⟨b, o, none⟩) n c
def nm : Value := .map none
def mp (b : Nat) : Value := .map (some b)
def ni : Value := .nilIface
def nf : Value := .nilFunc
def ic (t : Nat) (v : Value) : Value := .iface t v
def ag (l : List Value) : Value := .agg ⟨l⟩
def tu (l : List Value) : Value := .tuple ⟨l⟩
/-- n times v, then the rest. -/
noncomputable def r (n : Nat) (v : Value) (l : List Value) : List Value := Nat.rec l (fun _ ih => v :: ih) n
noncomputable def c (l : List Value) : AObj := .cells ⟨l, .nil, l.length, false⟩
def e (k v : Value) (b : Nat) : MapEntry := { key := k, val := v, born := b }
def m (l : List MapEntry) (k : Nat) : AObj := .map ⟨l⟩ k
end Go.Ab.W
/- What is taken of a program, out of closed checks. -/
namespace Go.Ab
open Go
noncomputable section

/-- The values from k on. -/
def listOf {α : Type} (t : T α) : Nat → Nat → List α
  | 0, _ => []
  | n + 1, k => match t.get k with
    | some x => x :: listOf t n (k + 1)
    | none => []
/-- Are all numbers (a * n + b) below N? -/
def below {α : Type} (t : T α) (N : Nat) : Nat → Nat → Bool :=
  T.rec (motive := fun _ => Nat → Nat → Bool) (fun _ _ => true) (fun _ v _ il ir a b => Option.rec (motive := fun _ => Bool) true (fun _ => Nat.blt b N) v && il (2 * a) (a + b) && ir (2 * a) (2 * a + b)) t
theorem below_spec {α : Type} (N : Nat) : ∀ (t : T α) (a b : Nat), below t N a b = true → ∀ n x, t.get n = some x → a * n + b < N
  | .nil, _, _, _, n, x, h => by rw [T.get_nil] at h; cases h
  | .node l v r, a, b, h, n, x, hg => by
    have h : (Option.rec (motive := fun _ => Bool) true (fun _ => Nat.blt b N) v && below l N (2 * a) (a + b) && below r N (2 * a) (2 * a + b)) = true := h
    simp only [Bool.and_eq_true] at h
    obtain ⟨⟨h1, h2⟩, h3⟩ := h
    rw [T.get_node] at hg
    cases n with
    | zero =>
      simp only at hg
      subst hg
      have : b < N := Nat.le_of_ble_eq_true h1
      omega
    | succ m =>
      simp only at hg
      cases hb : Nat.beq (m % 2) 0 with
      | true =>
        rw [hb, cond_true] at hg
        have := below_spec N l _ _ h2 _ _ hg
        have hm := Nat.eq_of_beq_eq_true hb
        have e : a * (m + 1) + b = 2 * a * (m / 2) + (a + b) := by
          have : m = 2 * (m / 2) := by omega
          calc a * (m + 1) + b = a * (2 * (m / 2) + 1) + b := by rw [← this]
            _ = 2 * a * (m / 2) + (a + b) := by rw [Nat.mul_add, Nat.mul_one, ← Nat.mul_assoc, Nat.mul_comm a 2]; omega
        omega
      | false =>
        rw [hb, cond_false] at hg
        have := below_spec N r _ _ h3 _ _ hg
        have hm := Nat.ne_of_beq_eq_false hb
        have e : a * (m + 1) + b = 2 * a * (m / 2) + (2 * a + b) := by
          have : m = 2 * (m / 2) + 1 := by omega
          calc a * (m + 1) + b = a * (2 * (m / 2) + 1 + 1) + b := by rw [← this]
            _ = 2 * a * (m / 2) + (2 * a + b) := by rw [Nat.mul_add, Nat.mul_add, Nat.mul_one, ← Nat.mul_assoc, Nat.mul_comm a 2]; omega
        omega
theorem listOf_spec {α : Type} (t : T α) : ∀ (n k : Nat) (l : List α), listOf t n k = l → l.length = n → ∀ i, i < n → t.get (k + i) = l[i]?
  | 0, _, _, _, _, i, hi => by omega
  | n + 1, k, l, h, hl, i, hi => by
    unfold listOf at h
    cases hk : t.get k with
    | none => rw [hk] at h; subst h; simp at hl
    | some x =>
      rw [hk] at h
      subst h
      cases i with
      | zero => simpa using hk
      | succ i =>
        have := listOf_spec t n (k + 1) _ rfl (by simpa using hl) i (by omega)
        rw [show k + (i + 1) = k + 1 + i by omega, this]; simp
theorem tree_ok {α : Type} {t : T α} {xs : Array α} (n : Nat) (h1 : listOf t n 0 = xs.toList) (h2 : xs.size = n) (h3 : below t n 1 0 = true) : ∀ i x, t.get i = some x → xs[i]? = some x := fun i x h => by
  have hi := below_spec n t 1 0 h3 i x h
  have := listOf_spec t n 0 xs.toList h1 (by simpa using h2) i (by omega)
  rw [Nat.zero_add] at this
  rw [← h, this]; simp

theorem all_end {α : Type} {p : α → Bool} {l : List α} (a : Nat) (h : l.length ≤ a) : (l.drop a).all p = true := by
  rw [List.drop_eq_nil_of_le h]; rfl
theorem all_from {α : Type} {p : α → Bool} {l : List α} (a b : Nat) (h : ((l.drop a).take b).all p = true) (h' : (l.drop (a + b)).all p = true) : (l.drop a).all p = true := by
  rw [← List.take_append_drop b (l.drop a), List.all_append, h, List.drop_drop, h']; rfl

/-- Those that are marked. -/
def maskOf {α : Type} : List Bool → List α → List (Option α)
  | b :: bs, x :: xs => (match b with | true => some x | false => none) :: maskOf bs xs
  | _, _ => []
def listOfH {α : Type} (t : T α) : Nat → Nat → List (Option α)
  | 0, _ => []
  | n + 1, k => t.get k :: listOfH t n (k + 1)
theorem listOfH_get {α : Type} (t : T α) : ∀ (n k i : Nat), i < n → (listOfH t n k)[i]? = some (t.get (k + i))
  | 0, _, _, h => by omega
  | n + 1, k, 0, _ => rfl
  | n + 1, k, i + 1, h => by
    rw [listOfH, List.getElem?_cons_succ, listOfH_get t n (k + 1) i (by omega), show k + 1 + i = k + (i + 1) by omega]
theorem maskOf_cons {α : Type} (b : Bool) (bs : List Bool) (y : α) (ys : List α) : maskOf (b :: bs) (y :: ys) = (match b with | true => some y | false => none) :: maskOf bs ys := rfl
theorem maskOf_get {α : Type} (bs : List Bool) : ∀ (xs : List α) (i : Nat) (x : α), (maskOf bs xs)[i]? = some (some x) → xs[i]? = some x := by
  induction bs with
  | nil => intro xs i x h; simp [maskOf] at h
  | cons b bs ih =>
    intro xs i x h
    cases xs with
    | nil => simp [maskOf] at h
    | cons y ys =>
      rw [maskOf_cons] at h
      cases i with
      | zero =>
        cases b <;> simp at h
        simpa using h
      | succ i =>
        rw [List.getElem?_cons_succ] at h ⊢
        exact ih ys i x h
theorem holes_at {α : Type} {t : T α} {xs : Array α} {bs : List Bool} (n : Nat) (h1 : listOfH t n 0 = maskOf bs xs.toList) (h3 : below t n 1 0 = true) {i : Nat} {x : α} (h : t.get i = some x) : (maskOf bs xs.toList)[i]? = some (some x) := by
  have hi := below_spec n t 1 0 h3 i x h
  rw [← h1, listOfH_get t n 0 i (by omega), Nat.zero_add, h]
theorem holes_ok {α : Type} {t : T α} {xs : Array α} {bs : List Bool} (n : Nat) (h1 : listOfH t n 0 = maskOf bs xs.toList) (h3 : below t n 1 0 = true) : ∀ i x, t.get i = some x → xs[i]? = some x := fun i x h => by
  have := maskOf_get bs xs.toList i x (holes_at n h1 h3 h)
  simpa using this

variable {P : Program}
def zeroFree (i : TypeInfo) : Bool := match i.zero with
  | some z => free z
  | none => true
def funcOk (G : Nat) (fn : Func) : Bool := match fn.body with
  | some c => codeOk G fn.ntmps c
  | none => true
def noNum (fn : Func) : Bool := !(fn.name == "runtime.NumGoroutine")
def funcOk' (G : Nat) (fn : Option Func) : Bool := match fn with
  | some fn => funcOk G fn
  | none => true
theorem fit_of [Idx P] {bs : List Bool} (hz : P.types.toList.all zeroFree = true) (hn : P.funcs.toList.all noNum = true) (hb : ∀ f fn, fnAt P f = some fn → (maskOf bs P.funcs.toList)[f]? = some (some fn)) (hc : (maskOf bs P.funcs.toList).all (funcOk' P.globals.size) = true) (hm : P.follows .mixedOrders = true) : Fit P where
  zero t z h := by
    have key : ∀ i, P.types[t]? = some i → i.zero = some z → free z = true := fun i hi hzz => by
      have := List.all_eq_true.1 hz i (by have := Array.mem_of_getElem? hi; simpa using this)
      unfold zeroFree at this
      rw [hzz] at this; exact this
    unfold zeroA at h
    split at h
    · rename_i i hi; exact key i (Idx.hty _ _ hi) h
    · split at h
      · rename_i hlt
        have hlt : t < P.types.size := Nat.le_of_ble_eq_true hlt
        simp only [Option.bind_eq_some_iff] at h
        obtain ⟨i, hi, hzz⟩ := h
        refine key i ?_ hzz
        unfold Tables.info? at hi
        rw [if_pos hlt] at hi; exact hi
      · cases h
  noNum f fn h := by
    have := List.all_eq_true.1 hn fn (by have := Array.mem_of_getElem? h; simpa using this)
    simpa [noNum] using this
  code f fn c h hbd := by
    have := List.all_eq_true.1 hc (some fn) (List.mem_of_getElem? (hb f fn h))
    unfold funcOk' funcOk at this
    simp only [hbd] at this; exact this
  mixed := hm
/-- Where functions of a name lie. -/
def namedAt (P : Program) (name : String) : List Nat := ((P.funcs.toList.zipIdx).filter fun p => p.1.body.isNone && p.1.name == name).map (·.2)
theorem namedAt_spec {name : String} {l : List Nat} (h : namedAt P name = l) {f : Nat} {fn : Func} (hf : P.funcs[f]? = some fn) (hb : fn.body = none) (hn : fn.name = name) : f ∈ l := by
  subst h
  unfold namedAt
  refine List.mem_map.2 ⟨(fn, f), List.mem_filter.2 ⟨?_, ?_⟩, rfl⟩
  · rw [List.mem_zipIdx_iff_getElem?]
    simpa using hf
  · simp [hb, hn]
end
end Go.Ab
/- From a run of the evaluator to a row: a function of no argument that answers true, whatever the world. -/
namespace Go.Ab
open Go Go.RowKit Go.WideShapes Go.ChangeShapes
variable {P : Program}

def isYes (r : Res Value) : Bool := match r with
  | .ok (.bool true) _ => true
  | _ => false
/-- Nothing is known of memory. -/
noncomputable def st0 (P : Program) : St := { top := .nil, next := P.globals.size }
def phi0 (G : Nat) : Phi := fun b => if b < G then some (b, ⟨0, 0⟩) else none

theorem inv0 (W : World) : Inv P (phi0 P.globals.size) ((st0 P).look []) (st0 P).next W where
  sim := ⟨fun b ob h => (by simp [St.look, lookE, st0] at h), fun b c B o p h => (by simp [St.look, lookE, st0] at h)⟩
  fresh b h := if_neg (by have : P.globals.size ≤ b := h; omega)
  globs g h := ⟨0, if_pos h⟩

theorem closed_calls [Idx P] {r : Fns} (FO : FnsOk P r) {f : FuncId} {fn : Func} {c : Code} (hf : P.funcs[f]? = some fn) (hb : fn.body = some c) (hn : (fn.name == "runtime.NumGoroutine") = false) (h : isYes (r.callF f [] [] (st0 P)) = true) (W : World) :
    Calls P f #[] W fun e W' => e = .returned (.bool true) ∧ Below W.heap.size W W' := by
  generalize hres : r.callF f [] [] (st0 P) = res at h
  have hd := FO.callF f [] #[] [] (st0 P) (phi0 P.globals.size) W .nil (inv0 W) (by rw [hres]; intro e; rw [e] at h; cases h)
  rw [hres] at hd
  rw [run_enter hf hb hn] at hd
  have hd : CallsIn Fence.wide 0 P f #[] W _ := hd
  refine (callsIn_wide.1 hd).mono fun e W' ⟨v, he, vv, s', φ', hm, rv, t⟩ => ?_
  cases res with
  | ok v0 s0 =>
    simp only [Res.list, List.mem_singleton, Prod.mk.injEq] at hm
    obtain ⟨rfl, rfl⟩ := hm
    have hv : vv = .bool true := by
      unfold isYes at h
      split at h
      · rename_i h2; cases h2; rfl
      · cases h
    subst hv
    rw [rv.bool_inv] at he
    refine ⟨he, t.2.os, t.2.tape, t.2.output, t.2.size, fun k hk => (t.2.frame k hk ?_).1⟩
    rintro ⟨b, ob, o, hb, _⟩
    simp [St.look, lookE, st0] at hb
  | alt l => cases h
  | bad => cases h

section
variable {H : Type} {enc : TypeId × Value → H}
theorem closed_post {fn : Func} {s : ChangeSpec} {apart fresh handsOn : Bool} {W W' : World} {args : Array Value} {ds gs : List (DataW H)} {before : List MemPlace} {t : TypeId} (hp : fn.params = #[]) (hv : s.vars = []) (hr : fn.resultTypes = #[t]) (ht : P.underlying t = some .bool)
    (hs : (s.fn H []).results = [.lit (.bool true)] ∧ (s.fn H []).args = [] ∧ (s.fn H []).vars = []) (hb : Below W.heap.size W W') (hW : DataW.Whole enc P fn.params.toList s.vars apart W args.toList ds gs before) :
    args = #[] ∧ s.post enc P fn apart fresh handsOn false W args (.bool true) W' := by
  have hW' := hW
  obtain ⟨p, q, hA, hV, _, _, _⟩ := hW
  rw [hp] at hA
  rw [hv] at hV
  obtain ⟨rfl, rfl, _⟩ := trodAll_none hA
  obtain ⟨rfl, _⟩ := trodVars_none hV
  refine ⟨rfl, [], [], before, [], [], [], hW', ?_, ?_, ?_, hb.frame _, fun h => by cases h⟩
  · rw [hr, List.append_nil, hs.1]
    exact trodAll_mk1 (shut_bool ht true)
  · rw [hp, List.append_nil, hs.2.1]
    exact trodAll_mk0
  · rw [hv, List.append_nil, hs.2.2]; rfl
end

/-- No text of the program starts a goroutine: so none that a call can come to. -/
theorem not_goes {c : OpenClaim} (hst : c.start = .entering) (h : P.funcs.toList.all (fun fn => !fn.goes) = true) : false = c.goesBy P := by
  have hall : ∀ f : Nat, (P.funcs[f]?).any Func.goes = false := fun f => by
    cases hf : P.funcs[f]? with
    | none => rfl
    | some fn =>
      have := List.all_eq_true.1 h fn (by have := Array.mem_of_getElem? hf; simpa using this)
      simpa using this
  have hany : P.funcs.any Func.goes = false := by
    rw [Array.any_eq_false]
    intro i hi
    have := hall i
    rw [Array.getElem?_eq_getElem hi] at this
    simpa using this
  have hP : ∀ f, P.goes f = false := fun f => by
    unfold Program.goes
    rw [hany, Bool.and_false, Bool.or_false, Bool.eq_false_iff]
    intro e
    rw [List.any_eq_true] at e
    obtain ⟨g, _, hg⟩ := e
    rw [hall g] at hg; cases hg
  unfold OpenClaim.goesBy Program.goesAt Program.goesFrom
  rw [hst]
  cases P.funcNamed c.func with
  | none => rfl
  | some f => simp [hP f]
end Go.Ab

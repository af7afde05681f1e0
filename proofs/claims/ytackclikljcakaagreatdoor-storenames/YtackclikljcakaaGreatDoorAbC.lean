/- The abstract evaluator against the model: the last operations; runs of functions without loops. For every program and every world; no condition. -/
import Derived.Laws.AppendOwn
import Derived.RangeFuncLeaves
import Derived.OrdersIn
import Derived.Test.YtackclikljcakaaGreatDoorAbB
/- Each operation that calls nothing: the model does what is told of it. Part 8: append. -/
namespace Go.Ab
open Go
variable {P : Program} [Idx P] {φ : Phi} {h : Look} {W : World}

theorem asMake_cases {t : Option TypeId} {mk : Bool} (e : asMakeA P t = some mk) : (t = none ∧ mk = false) ∨ ∃ xt d, t = some xt ∧ undA P xt = some d ∧ ((mk = true ∧ ∃ k, d = .int k) ∨ (mk = false ∧ ∀ k, d ≠ .int k)) := by
  unfold asMakeA at e
  split at e
  · rename_i xt
    split at e
    · rename_i k hk; cases e; exact .inr ⟨xt, _, rfl, hk, .inl ⟨rfl, _, rfl⟩⟩
    · rename_i d hd hu; cases e
      exact .inr ⟨xt, d, rfl, hu, .inr ⟨rfl, fun k hk => by first | exact hd k hk | exact hd k (hk ▸ hu)⟩⟩
    · cases e
  · cases e; exact .inl ⟨rfl, rfl⟩

/-- How many elements are appended. -/
theorem run_count {mk : Bool} {x x' : Value} {n : Nat} {elem : TypeId} {i : TypeInfo} (hx : RV φ x x') (e : countA mk x = some n) (_hi : infA P elem = some i) (hfit : n * i.bytes ≤ 2 ^ 40) (hn : n ≤ 2 ^ 40) :
    (mk = false ∧ (Builtin.lenOf x').run P W = .ok n W) ∨ (mk = true ∧ ∃ l : Int, x' = .int .i64 l ∧ IntKind.i64.wrap l = l ∧ ¬ l < 0 ∧ l.toNat = n ∧ ¬ 281474976710656 < l * i.bytes) := by
  unfold countA at e
  cases mk with
  | false => exact .inl ⟨rfl, lenOf_rel hx e⟩
  | true =>
    refine .inr ⟨rfl, ?_⟩
    simp only at e
    split at e
    · rename_i l
      split at e
      · rename_i hl
        cases e
        refine ⟨l, hx.int_inv, by unfold IntKind.wrap; simp [IntKind.signed, IntKind.bits]; omega, by omega, rfl, ?_⟩
        have h1 : ((l.toNat * i.bytes : Nat) : Int) ≤ 2 ^ 40 := by exact_mod_cast hfit
        have h2 : ((l.toNat : Nat) : Int) = l := Int.toNat_of_nonneg hl
        rw [Int.natCast_mul, h2] at h1
        omega
      · cases e
    · cases e

/-- The new elements. -/
theorem Sim.news (s : Sim φ h W) (F : Fit P) {mk : Bool} {elem : TypeId} {size n : Nat} {x x' : Value} {vs : List Value} {i : TypeInfo} (_hi : infA P elem = some i) (_hsz : i.size = size) (hx : RV φ x x') (hc : countA mk x = some n) (e : newElems P h mk elem size n x = some vs) :
    vs.length = n * size ∧ ∃ vs', RL φ vs vs' ∧ (if !mk then Builtin.firstCells size n x' else if n * size = 0 then pure #[] else do pure (Builtin.zeroCells (← zeroValue elem).cells n) : Sem (Array Value)).run P W = .ok vs'.toArray W := by
  cases mk with
  | false =>
    have e : firstOf h size n x = some vs := e
    cases x with
    | slice a l c =>
      have hc : some l = some n := hc
      cases hc
      simpa using s.first hx (Nat.le_refl _) e
    | _ => cases e
  | true =>
    have e : ((zeroA P elem).bind fun z => if Nat.beq z.cells.size size then some (zeros z.cells.toList n) else none) = some vs := e
    simp only [Option.bind_eq_some_iff] at e
    obtain ⟨z, hz, e⟩ := e
    split at e
    · rename_i hzs
      cases e
      have hzs := Nat.eq_of_beq_eq_true hzs
      have hl : (zeros z.cells.toList n).length = n * size := by rw [zeros_length]; simp [hzs]
      refine ⟨hl, zeros z.cells.toList n, zeros_rel F hz n, ?_⟩
      simp only [Bool.not_true, Bool.false_eq_true, if_false]
      by_cases h0 : n * size = 0
      · rw [if_pos h0]
        rw [h0] at hl
        rw [List.eq_nil_of_length_eq_zero hl]
        rfl
      · rw [if_neg h0]
        have hq : Builtin.zeroCells z.cells n = (zeros z.cells.toList n).toArray := by
          apply Array.ext'
          unfold Builtin.zeroCells
          simpa using zeros_eq z.cells n
        simp [run_zero hz, hq]
    · cases e

omit [Idx P] in
theorem news_cases {elem : TypeId} {n size : Nat} {vs : List Value} (e : (if n * size = 0 then pure #[] else do pure (Builtin.zeroCells (← zeroValue elem).cells n) : Sem (Array Value)).run P W = .ok vs.toArray W) :
    (n * size = 0 ∧ vs = []) ∨ (¬ n * size = 0 ∧ ∃ q, (zeroValue elem).run P W = .ok q W ∧ Builtin.zeroCells q.cells n = vs.toArray) := by
  by_cases h0 : n * size = 0
  · rw [if_pos h0] at e
    simp only [Sem.run_pure, Result.ok.injEq, and_true] at e
    refine .inl ⟨h0, ?_⟩
    have := congrArg Array.toList e
    simpa using this.symm
  · rw [if_neg h0] at e
    refine .inr ⟨h0, ?_⟩
    have e : (do let z ← zeroValue elem; pure (Builtin.zeroCells z.cells n) : Sem (Array Value)).run P W = .ok vs.toArray W := e
    simp only [Sem.run_bind] at e
    cases hz : (zeroValue elem).run P W with
    | halt q w => rw [hz] at e; cases e
    | ok q w =>
      rw [hz] at e
      simp only [Result.andThen_ok, Sem.run_pure, Result.ok.injEq] at e
      obtain ⟨h1, rfl⟩ := e
      exact ⟨q, rfl, h1⟩
set_option maxHeartbeats 2000000 in
/-- What the model's append does. -/
theorem run_append {A : Array TypeId} {args : Array Value} {ty sType elem : TypeId} {base : Option Addr} {sLen sCap n : Nat} {x : Value} {i : TypeInfo} {mk : Bool} {z : Value}
    (hA : A[0]? = some sType) (h0 : args[0]? = some (.slice base sLen sCap)) (h1 : args[1]? = some x) (hu : undA P sType = some (.slice elem)) (hi : infA P elem = some i) (hmk : asMakeA P A[1]? = some mk)
    (hcount : (mk = false ∧ (Builtin.lenOf x).run P W = .ok n W) ∨ (mk = true ∧ ∃ l : Int, x = .int .i64 l ∧ IntKind.i64.wrap l = l ∧ ¬ l < 0 ∧ l.toNat = n ∧ ¬ 281474976710656 < l * i.bytes))
    (hfit : fitsA (sLen + n) i.bytes = true) :
    (∀ vs : List Value, sLen + n ≤ sCap → (if !mk then Builtin.firstCells i.size n x else if n * i.size = 0 then pure #[] else do pure (Builtin.zeroCells (← zeroValue elem).cells n) : Sem (Array Value)).run P W = .ok vs.toArray W →
      (Builtin.append_ A ty args).run P W = (do (match base with | some a => storeCells (a.add (sLen * i.size)) vs | none => pure ()); pure (.slice base (sLen + n) sCap) : Sem Value).run P W) ∧
    (∀ olds vs : List Value, ¬ sLen + n ≤ sCap → (zeroValue elem).run P W.drew = .ok z W.drew →
      (if !mk then Builtin.firstCells i.size n x else if n * i.size = 0 then pure #[] else do pure (Builtin.zeroCells (← zeroValue elem).cells n) : Sem (Array Value)).run P W.drew = .ok vs.toArray W.drew →
      (Builtin.firstCells i.size sLen (.slice base sLen sCap)).run P W.drew = .ok olds.toArray W.drew →
      (Builtin.append_ A ty args).run P W = .ok (.slice (some ⟨W.heap.size, 0, none⟩) (sLen + n) (grownCap W (sLen + n) sCap elem))
        (W.drew.alloc (.cells (olds.toArray ++ vs.toArray ++ Builtin.zeroCells z.cells (grownCap W (sLen + n) sCap elem - (sLen + n))) elem))) := by
  obtain ⟨f1, f2, f3⟩ := fits_size hfit
  have h63 : ¬ (9223372036854775807 < ((sLen : Int) + (n : Int))) := by omega
  have sz : sizeA P elem = some i.size := by unfold sizeA; rw [hi]; rfl
  have grow : ¬ sLen + n ≤ sCap → ¬ (281474976710656 < Builtin.nextslicecap (sLen + n) sCap * i.bytes) := fun hg => by
    have := growslice_fits (bytes := i.bytes) (Nat.lt_of_not_le hg) (by omega)
    omega
  constructor
  · intro vs hle hnew
    rcases asMake_cases hmk with ⟨ht, rfl⟩ | ⟨xt, d, ht, hd, ⟨rfl, kk, rfl⟩ | ⟨rfl, hm⟩⟩
    · rcases hcount with ⟨_, hc⟩ | ⟨hh, _⟩
      · have hnew : (Builtin.firstCells i.size n x).run P W = .ok vs.toArray W := by simpa using hnew
        cases base <;> simp [Builtin.append_, hA, h0, h1, run_und hu, run_size sz, ht, hc, hle, hnew]
      · cases hh
    · rcases hcount with ⟨hh, _⟩ | ⟨_, l, rfl, hw, hl0, rfl, hl48⟩
      · cases hh
      · simp only [Bool.not_true, Bool.false_eq_true, if_false] at hnew
        rcases news_cases hnew with ⟨h00, rfl⟩ | ⟨h00, q, hq, hqc⟩
        · cases base <;> simp [Builtin.append_, hA, h0, h1, run_und hu, run_size sz, ht, run_und hd, hle, asInt, asIntOf, hw, hl0, hl48, run_info hi, h00]
        · cases base <;> simp [Builtin.append_, hA, h0, h1, run_und hu, run_size sz, ht, run_und hd, hle, asInt, asIntOf, hw, hl0, hl48, run_info hi, h00, hq, hqc]
    · rcases hcount with ⟨_, hc⟩ | ⟨hh, _⟩
      · have hnew : (Builtin.firstCells i.size n x).run P W = .ok vs.toArray W := by simpa using hnew
        cases base <;> simp [Builtin.append_, hA, h0, h1, run_und hu, run_size sz, ht, run_und hd] <;> cases d <;> first
          | exact absurd rfl (hm _)
          | simp [hc, hle, hnew]
      · cases hh
  · intro olds vs hle hz hnew hold
    have hg := grow hle
    rcases asMake_cases hmk with ⟨ht, rfl⟩ | ⟨xt, d, ht, hd, ⟨rfl, kk, rfl⟩ | ⟨rfl, hm⟩⟩
    · rcases hcount with ⟨_, hc⟩ | ⟨hh, _⟩
      · have hnew : (Builtin.firstCells i.size n x).run P W.drew = .ok vs.toArray W.drew := by simpa using hnew
        simp [Builtin.append_, hA, h0, h1, run_und hu, run_size sz, ht, hc, hle, hnew, hold, hz, h63, hg, run_info hi, Question.forced, Go.newRow, grownCap]
        try (congr 2; apply Array.ext'; simp [List.append_assoc])
      · cases hh
    · rcases hcount with ⟨hh, _⟩ | ⟨_, l, rfl, hw, hl0, rfl, hl48⟩
      · cases hh
      · simp only [Bool.not_true, Bool.false_eq_true, if_false] at hnew
        have h63' : ¬ 9223372036854775807 < (sLen : Int) + max l 0 := by omega
        rcases news_cases hnew with ⟨h00, rfl⟩ | ⟨h00, q, hq, hqc⟩
        · simp [Builtin.append_, hA, h0, h1, run_und hu, run_size sz, ht, run_und hd, hle, asInt, asIntOf, hw, hl0, hl48, run_info hi, h00, h63', hold, hz, hg, Question.forced, Go.newRow, grownCap]
          try (congr 2; apply Array.ext'; simp [List.append_assoc])
        · rw [hz] at hq; cases hq
          simp [Builtin.append_, hA, h0, h1, run_und hu, run_size sz, ht, run_und hd, hle, asInt, asIntOf, hw, hl0, hl48, run_info hi, h00, hqc, h63', hold, hz, hg, Question.forced, Go.newRow, grownCap]
          try (congr 2; apply Array.ext'; simp [List.append_assoc])
    · rcases hcount with ⟨_, hc⟩ | ⟨hh, _⟩
      · have hnew : (Builtin.firstCells i.size n x).run P W.drew = .ok vs.toArray W.drew := by simpa using hnew
        simp [Builtin.append_, hA, h0, h1, run_und hu, run_size sz, ht, run_und hd]
        cases d <;> first
          | exact absurd rfl (hm _)
          | (simp [hc, hle, hnew, hold, hz, h63, hg, run_info hi, Question.forced, Go.newRow, grownCap]; try (congr 2; apply Array.ext'; simp [List.append_assoc]))
      · cases hh
end Go.Ab
/- Each operation that calls nothing: the model does what is told of it. Part 9: what is built in. -/
namespace Go.Ab
open Go
variable {P : Program} [Idx P] {φ : Phi} {h : Look} {W : World}

theorem Grew.sub {φ' : Phi} {h' k : Look} {W' : World} {n n' : Nat} (g : Grew φ h W n φ' k W' n') (hs : h'.sub k) : Grew φ h W n φ' h' W' n' :=
  ⟨g.le, g.dom, g.next, g.os, g.tape, g.output, g.size, fun B hB o => ⟨(g.frame B hB o).1, fun o' => (g.frame B hB o).2 (o'.sub hs)⟩, fun b ob e w => g.ro b ob (hs b ob e) w⟩

/-- One row is given up, and another one is spoken of that lies in the same block. -/
theorem Sim.rebase (s : Sim φ h W) {n : Nat} (hn : φ n = none) {b : Nat} {c : Cells} {B : Nat} {o o' : Off} (hb : h b = some (.cells c)) (hro : c.ro = false) (hφ : φ b = some (B, o)) {W' : World} {ob : AObj}
    (hr : ∀ ψ : Phi, φ.le ψ → RObj ψ W' ob B o') (hsize : W'.heap.size = W.heap.size) (hk : ∀ k, k ≠ B → W'.heap[k]? = W.heap[k]?) (hos : W'.os = W.os) (htape : W'.tape = W.tape) (hout : W'.output = W.output) (hw' : ob.writable = true := by rfl) :
    ∃ φ', φ.le φ' ∧ φ' n = some (B, o') ∧ Sim φ' (h.up [(b, none), (n, some ob)]) W' ∧ Grew φ h W n φ' (h.up [(b, none), (n, some ob)]) W' (n + 1) := by
  let φ' : Phi := fun c => if c = n then some (B, o') else φ c
  have hle : φ.le φ' := fun c x hc => by
    show (if c = n then _ else _) = _
    rw [if_neg (fun e => by subst e; rw [hn] at hc; cases hc)]; exact hc
  have hnew : φ' n = some (B, o') := if_pos rfl
  have hlook : ∀ c, (h.up [(b, none), (n, some ob)]) c = if c = n then some ob else if c = b then none else h c := fun c => rfl
  refine ⟨φ', hle, hnew, ⟨fun c oc hc => ?_, fun c d C p q hc hd e e' => ?_⟩, hle, fun c e e' => ?_, by omega, hos, htape, hout, by omega, fun C hC hO => ⟨hk C fun x => hO ⟨b, _, o, hb, by simp [AObj.writable, hro], x ▸ hφ⟩, fun ⟨c, oc, p, hc, hwc, hp⟩ => hO ?_⟩, ?_⟩
  · rw [hlook] at hc
    by_cases e : c = n
    · subst e; rw [if_pos rfl] at hc; cases hc; exact ⟨B, o', hnew, hr φ' hle⟩
    · rw [if_neg e] at hc
      by_cases eb : c = b
      · rw [if_pos eb] at hc; cases hc
      · rw [if_neg eb] at hc
        obtain ⟨C, p, hp, r⟩ := s.obj c oc hc
        refine ⟨C, p, hle _ _ hp, r.mono hle (hk C fun x => eb ?_)⟩
        subst x
        exact s.inj c b C p o (by simp [hc]) (by simp [hb]) hp hφ
  · rw [hlook] at hc hd
    have old : ∀ c p, ¬ c = n → ((if c = n then some ob else if c = b then none else h c) : Option AObj).isSome → φ' c = some (B, p) → False := fun c p ec hc e => by
      rw [if_neg ec] at hc
      by_cases eb : c = b
      · rw [if_pos eb] at hc; cases hc
      · rw [if_neg eb] at hc
        have : φ' c = φ c := if_neg ec
        rw [this] at e
        exact eb (s.inj c b B p o hc (by simp [hb]) e hφ)
    by_cases ec : c = n
    · by_cases ed : d = n
      · rw [ec, ed]
      · subst ec
        rw [hnew] at e; cases e
        exact (old d q ed hd e').elim
    · by_cases ed : d = n
      · subst ed
        rw [hnew] at e'; cases e'
        exact (old c p ec hc e).elim
      · rw [if_neg ec] at hc
        rw [if_neg ed] at hd
        by_cases ebc : c = b
        · rw [if_pos ebc] at hc; cases hc
        · by_cases ebd : d = b
          · rw [if_pos ebd] at hd; cases hd
          · rw [if_neg ebc] at hc
            rw [if_neg ebd] at hd
            have h2 : φ' c = φ c := if_neg ec
            have h3 : φ' d = φ d := if_neg ed
            exact s.inj c d C p q hc hd (h2 ▸ e) (h3 ▸ e')
  · have : φ' c = if c = n then some (B, o') else φ c := rfl
    rw [this] at e'
    by_cases x : c = n
    · omega
    · rw [if_neg x] at e'; exact absurd e e'
  · rw [hlook] at hc
    by_cases x : c = n
    · subst x; rw [hnew] at hp; cases hp
      exact ⟨b, _, o, hb, by simp [AObj.writable, hro], hφ⟩
    · rw [if_neg x] at hc
      by_cases eb : c = b
      · rw [if_pos eb] at hc; cases hc
      · rw [if_neg eb] at hc
        have h3 : φ' c = φ c := if_neg x
        exact ⟨c, oc, p, hc, hwc, h3 ▸ hp⟩
  · intro c oc hc hwc
    rw [hlook] at hc
    by_cases x : c = n
    · rw [if_pos x] at hc; cases hc; rw [hw'] at hwc; cases hwc
    · rw [if_neg x] at hc
      by_cases eb : c = b
      · rw [if_pos eb] at hc; cases hc
      · rw [if_neg eb] at hc; exact hc

theorem args_rel {ρ ρ' : Operand → Value} {as : Array Operand} (ha : ∀ x ∈ as.toList, RV φ (ρ x) (ρ' x)) {i : Nat} {v : Value} (e : (as.map ρ)[i]? = some v) : ∃ v', (as.map ρ')[i]? = some v' ∧ RV φ v v' := by
  rw [Array.getElem?_map, Option.map_eq_some_iff] at e
  obtain ⟨x, hx, rfl⟩ := e
  exact ⟨ρ' x, by rw [Array.getElem?_map, hx]; rfl, ha x (by simpa using List.mem_of_getElem? (by simpa using hx : as.toList[i]? = some x))⟩

theorem grown_le (need old : Nat) (e : TypeId) : need ≤ grownCap W need old e := by
  unfold grownCap Question.cut
  exact Nat.le_add_right _ _

/-- The model's append. -/
theorem Sim.append (s : Sim φ h W) (F : Fit P) {n : Nat} (hn : φ n = none) {A : Array TypeId} {ty : TypeId} {as : Array Operand} {ρ ρ' : Operand → Value} (ha : ∀ x ∈ as.toList, RV φ (ρ x) (ρ' x)) {v : Value} {u : Ups} {fr : Bool}
    (e : appendA P h n A (as.map ρ) = some (v, u, fr)) :
    ∃ φ' v' W', (Builtin.append_ A ty (as.map ρ')).run P W = .ok v' W' ∧ RV φ' v v' ∧ Sim φ' (h.up u) W' ∧ Grew φ h W n φ' (h.up u) W' (n + if fr then 1 else 0) := by
  unfold appendA at e
  split at e
  · rename_i sType base sLen sCap x hA h0 h1
    split at e
    · rename_i elem hu
      simp only [Option.bind_eq_some_iff] at e
      obtain ⟨i, hi, mk, hmk, m, hm, e⟩ := e
      split at e
      · rename_i hfit
        simp only [Option.bind_eq_some_iff] at e
        obtain ⟨new, hnew, e⟩ := e
        obtain ⟨sv, hsv, hsr⟩ := args_rel ha h0
        obtain ⟨x', hx', hxr⟩ := args_rel ha h1
        obtain ⟨f1, f2, f3⟩ := fits_size hfit
        have f4 : m * i.bytes ≤ 2 ^ 40 := Nat.le_trans (Nat.mul_le_mul_right _ (by omega)) f3
        have hcount := run_count (P := P) (W := W) hxr hm hi f4 (by omega)
        obtain ⟨base', c', rfl, hcap, hadr⟩ : ∃ a' c', sv = .slice a' sLen c' ∧ RCap sLen sCap c' ∧ ((base = none ∧ a' = none ∧ c' = 0 ∧ sCap = 0) ∨ ∃ b b', base = some b ∧ a' = some b' ∧ RS φ b b' sCap c') := by
          cases hsr with
          | sliceNil => exact ⟨none, 0, rfl, ⟨by omega, by omega, by omega⟩, .inl ⟨rfl, rfl, rfl, rfl⟩⟩
          | slice ra hc => exact ⟨_, _, rfl, hc, .inr ⟨_, _, rfl, rfl, ra⟩⟩
        obtain ⟨hc1, hc2, hc3⟩ := hcap
        split at e
        · -- there is room
          rename_i hle
          have hle := Nat.le_of_ble_eq_true hle
          obtain ⟨hl, vs', hr, hrun⟩ := s.news (P := P) F hi rfl hxr hm hnew
          have hA' := (run_append (P := P) (W := W) (ty := ty) (z := undef) hA hsv hx' hu hi hmk hcount hfit).1 vs' (by omega) hrun
          unfold appendFit at e
          rcases hadr with ⟨rfl, rfl, rfl, rfl⟩ | ⟨b, b', rfl, rfl, hb1, hb2, o', hb3, hb4, hb5⟩
          · simp only at e
            split at e
            · rename_i hemp
              cases e
              have : new = [] := by simpa using hemp
              subst this
              cases hr
              have h00 : sLen + m = 0 := by omega
              refine ⟨φ, .slice none (sLen + m) 0, W, by rw [hA']; rfl, ?_, s, .refl ..⟩
              rw [h00]; exact .sliceNil
            · cases e
          · simp only [Option.map_eq_some_iff] at e
            obtain ⟨u', hu', e⟩ := e
            cases e
            have hpos : new ≠ [] → 0 < c' := fun h0 => by
              have : 0 < m := by
                rcases Nat.eq_zero_or_pos m with hz | hz
                · subst hz; simp at hl; exact absurd (by simpa using hl) h0
                · exact hz
              omega
            have hra : new ≠ [] → RA φ (b.add (sLen * i.size)) (b'.add (sLen * i.size)) := fun h0 => (show RA φ b b' from ⟨hb1, hb2, o', hb3, hb4 (hpos h0)⟩).add _
            obtain ⟨W', hst, hs', g⟩ := s.store (P := P) hra hr hu' n
            refine ⟨φ, .slice (some b') (sLen + m) c', W', ?_, .slice ⟨hb1, hb2, o', hb3, hb4, hb5⟩ ⟨hle, hc2, hc3⟩, hs', g⟩
            rw [hA']
            simp [hst]
        · -- it may be that there is none
          rename_i hle
          have hle : ¬ sLen + m ≤ sCap / 4096 := fun hh => hle (Nat.ble_eq_true_of_le hh)
          simp only [Option.bind_eq_some_iff] at e
          obtain ⟨z, hz, e⟩ := e
          split at e
          · rename_i hzs
            have hzs := Nat.eq_of_beq_eq_true hzs
            simp only [Option.bind_eq_some_iff] at e
            obtain ⟨old, hold, e⟩ := e
            -- the new row
            have grow : ¬ sLen + m ≤ c' → ∀ (k : Look), k.sub (h.up [(n, some (.cells (Cells.mk' (old ++ new))))]) → small i.size = true → v = .slice (some ⟨n, 0, none⟩) (sLen + m) (atLeast (sLen + m) i.size) →
                ∃ φ' v' W', (Builtin.append_ A ty (as.map ρ')).run P W = .ok v' W' ∧ RV φ' v v' ∧ Sim φ' k W' ∧ Grew φ h W n φ' k W' (n + 1) := fun hgr k hk hsm hv => by
              obtain ⟨hl, vs', hr, hrun⟩ := s.drew.news (P := P) F hi rfl hxr hm hnew
              obtain ⟨hl2, os', hr2, hrun2⟩ := s.drew.first (P := P) hsr (Nat.le_refl _) hold
              have hA' := (run_append (P := P) (W := W) (ty := ty) (z := z) hA hsv hx' hu hi hmk hcount hfit).2 os' vs' hgr (run_zero hz _) hrun hrun2
              have hsize : (os'.toArray ++ vs'.toArray ++ Builtin.zeroCells z.cells (grownCap W (sLen + m) c' elem - (sLen + m))).size = grownCap W (sLen + m) c' elem * i.size := by
                have := grown_le (W := W) (sLen + m) c' elem
                have e1 := hr.length
                have e2 := hr2.length
                simp only [Array.size_append, List.size_toArray, size_zeroCells]
                rw [← e1, ← e2, hl, hl2, hzs, ← Nat.add_mul, ← Nat.add_mul]
                congr 1
                omega
              have hlen : (os' ++ vs').length = (old ++ new).length := ((hr2.append hr).length).symm
              obtain ⟨φ', _, hle', hnew', hs', g⟩ := s.drew.newRow (P := P) hn (t := elem) (l := old ++ new) (cells := os'.toArray ++ vs'.toArray ++ Builtin.zeroCells z.cells (grownCap W (sLen + m) c' elem - (sLen + m)))
                (pad := (Builtin.zeroCells z.cells (grownCap W (sLen + m) c' elem - (sLen + m))).toList)
                (by rw [Array.toList_append, Array.toList_append, ← hlen, List.take_left]; exact hr2.append hr)
                (by rw [Array.toList_append, Array.toList_append, ← hlen, List.take_left])
              refine ⟨φ', _, _, hA', ?_, hs'.sub hk, ((Grew.refl φ h W n).drew.trans g).sub hk⟩
              rw [hv]
              exact .slice (.of_new hnew' _ _ fun _ => by rw [atLeast_mod hsm]; exact hsize.symm) (.atLeast' hsm (grown_le _ _ _))
            unfold appendGrow at e
            split at e
            · rename_i hsm
              simp only [Bool.and_eq_true] at hsm
              obtain ⟨hsm, hall⟩ := hsm
              split at e
              · rename_i hex
                cases e
                have hex := hc3 (Nat.eq_of_beq_eq_true hex)
                exact grow (by omega) _ (fun _ _ hb => hb) hsm rfl
              · rename_i hex
                split at e
                · rename_i b
                  split at e
                  · rename_i c hcb
                    split at e
                    · rename_i hck
                      cases e
                      simp only [Bool.and_eq_true, Bool.not_eq_true'] at hck
                      obtain ⟨hro, hmod⟩ := hck
                      have hmod := Nat.eq_of_beq_eq_true hmod
                      by_cases hgr : sLen + m ≤ c'
                      · -- written behind the old elements
                        rcases hadr with ⟨h0, _⟩ | ⟨b1, b', hbb, rfl, hb1, hb2, o', hb3, hb4, hb5⟩
                        · cases h0
                        · cases hbb
                          obtain ⟨hl, vs', hr, hrun⟩ := s.news (P := P) F hi rfl hxr hm hnew
                          have hA' := (run_append (P := P) (W := W) (ty := ty) (z := z) hA hsv hx' hu hi hmk hcount hfit).1 vs' hgr hrun
                          have hpos : 0 < c' := by omega
                          have hoff := hb4 hpos
                          have htop := hb5 hpos (by omega)
                          rw [hmod] at htop
                          simp only [Nat.add_sub_cancel] at htop
                          obtain ⟨B, o1, hφ1, arr, t1, fr1, hw, hcells⟩ := s.obj _ _ (cellsAt_some hcb)
                          rw [hb3] at hφ1; cases hφ1
                          have hsz := hcells.top
                          have hfree := hcells.free hro
                          have hl' := hr.length
                          have hmul : (sLen + m) * i.size ≤ c' * i.size := Nat.mul_le_mul_right _ hgr
                          have hadd : (sLen + m) * i.size = sLen * i.size + m * i.size := Nat.add_mul ..
                          have hsing : ∀ w ∈ vs', ∀ q, w ≠ .agg q ∧ w ≠ .tuple q := fun w hw' => by
                            obtain ⟨j, hj⟩ := List.getElem?_of_mem hw'
                            have hj' : j < new.length := by have := (List.getElem?_eq_some_iff.1 hj).1; omega
                            obtain ⟨w2, hw2, hr2⟩ := hr.get j new[j] (List.getElem?_eq_getElem hj')
                            rw [hj] at hw2; cases hw2
                            refine single_inv ?_ hr2
                            simp only [List.all_append, Bool.and_eq_true, List.all_eq_true] at hall
                            exact hall.2 _ (List.getElem_mem hj')
                          have hbadd : b'.add (sLen * i.size) = ⟨b'.block, b'.off + sLen * i.size, none⟩ := add_none hb2 _
                          obtain ⟨W', hst, hS⟩ := run_storeCells (P := P) (b'.add (sLen * i.size)) (by rw [hbadd]) (by rw [hbadd]) vs' 0 W arr hw hsing
                            (by rw [hbadd]; simp only; omega) (fun j h1 h2 => by rw [hbadd] at h1 h2; exact hfree j (by simp only at h1; omega) (by simp only at h2; omega))
                          rw [hbadd] at hS
                          simp only [Nat.add_zero] at hS
                          have hr2 := s.load (n := sLen * i.size) (fun _ => (show RA φ b b' from ⟨hb1, hb2, o', hb3, hoff⟩)) (show loadN h b (sLen * i.size) = some old from hold)
                          obtain ⟨os', hl3, hr3, hcell⟩ := hr2
                          have hold' : old.length = sLen * i.size := by rw [hr3.length, hl3]
                          have hvl : (old ++ new).length = (sLen + m) * i.size := by rw [List.length_append, hold', hl, hadd]
                          have hwl : b'.off + sLen * i.size + vs'.length ≤ arr.size := by omega
                          have hobj : ∀ ψ : Phi, φ.le ψ → RObj ψ W' (.cells (Cells.mk' (old ++ new))) b'.block ⟨b'.off, o'.top⟩ := fun ψ hψ => ⟨_, t1, fr1, hS.at_, by
                            refine ⟨rfl, fun j w e => ?_, fun j hj => ?_, by rw [writeL_size]; exact hsz, fun _ j h1 h2 => ?_⟩
                            · have : (old ++ new)[j]? = some w := by simpa [Cells.get_def, Cells.mk'] using e
                              exact (List.getElem?_eq_some_iff.1 this).1
                            · have hj : j < (old ++ new).length := hj
                              have hg : ∀ w, (Cells.mk' (old ++ new)).get j = some w → (old ++ new)[j]? = some w := fun w e => by simpa [Cells.get_def, Cells.mk'] using e
                              show ∃ v', (writeL arr (b'.off + sLen * i.size) vs')[b'.off + j]? = some v' ∧ _
                              rw [writeL_get _ _ _ _ hwl]
                              by_cases hjo : j < old.length
                              · have h1 : j < os'.length := by omega
                                have hcj := hcell j os'[j] (List.getElem?_eq_getElem h1)
                                rw [add_none hb2, cell_of_heap hw] at hcj
                                refine ⟨os'[j], by rw [if_neg (by omega)]; exact hcj, fun w e => ?_⟩
                                have e := hg w e
                                rw [List.getElem?_append_left hjo] at e
                                obtain ⟨w2, h2, h3⟩ := hr3.get j w e
                                rw [List.getElem?_eq_getElem h1] at h2; cases h2
                                exact h3.mono hψ
                              · have h1 : j - old.length < vs'.length := by rw [List.length_append] at hj; omega
                                refine ⟨vs'[j - old.length], ?_, fun w e => ?_⟩
                                · rw [if_pos (by omega)]
                                  rw [show b'.off + j - (b'.off + sLen * i.size) = j - old.length by omega]
                                  exact List.getElem?_eq_getElem h1
                                · have e := hg w e
                                  rw [List.getElem?_append_right (by omega)] at e
                                  obtain ⟨w2, h2, h3⟩ := hr.get _ w e
                                  rw [List.getElem?_eq_getElem h1] at h2; cases h2
                                  exact h3.mono hψ
                            · rw [writeL_size] at h2
                              have h1 : b'.off ≤ j := h1
                              exact hfree j (by omega) h2⟩
                          obtain ⟨φ', hle', hnew', hs', g⟩ := s.rebase hn (cellsAt_some hcb) hro hb3 hobj hS.size hS.other hS.os hS.tape hS.output
                          refine ⟨φ', .slice (some b') (sLen + m) c', W', ?_, ?_, hs', g⟩
                          · rw [hA']
                            simp [hst]
                          · refine .slice ⟨rfl, hb2, _, hnew', fun _ => rfl, fun _ _ => ?_⟩ (.atLeast' hsm hgr)
                            rw [atLeast_mod hsm]
                            exact htop
                      · refine grow hgr _ (fun q qo hq => ?_) hsm rfl
                        have h1 : (h.up [(b.block, none), (n, some (.cells (Cells.mk' (old ++ new))))]) q = if q = n then some (.cells (Cells.mk' (old ++ new))) else if q = b.block then none else h q := rfl
                        have h2 : (h.up [(n, some (.cells (Cells.mk' (old ++ new))))]) q = if q = n then some (.cells (Cells.mk' (old ++ new))) else h q := rfl
                        rw [h1] at hq
                        rw [h2]
                        split at hq
                        · rename_i hqn; rw [if_pos hqn]; exact hq
                        · rename_i hqn
                          rw [if_neg hqn]
                          split at hq
                          · cases hq
                          · exact hq
                    · cases e
                  · cases e
                · cases e
            · cases e
          · cases e
      · cases e
    · cases e
  · cases e
end Go.Ab
/- Each operation that calls nothing: the model does what is told of it. Part 10: what is built in, and all in one. -/
namespace Go.Ab
open Go
variable {P : Program} [Idx P] {φ : Phi} {h : Look} {W : World}

/-- A value is handed back. -/
def Gives (φ : Phi) (h : Look) (W : World) (n : Nat) (res : Result Value) (v : Value) (h' : Look) (n' : Nat) : Prop :=
  ∃ φ' v' W', res = .ok v' W' ∧ RV φ' v v' ∧ Sim φ' h' W' ∧ Grew φ h W n φ' h' W' n'
omit [Idx P] in
theorem Gives.goes {n n' : Nat} {s : Sem Value} {v : Value} {h' : Look} (g : Gives φ h W n (s.run P W) v h' n') : Goes φ h W n ((do pure (Next.value (← s)) : Sem Next).run P W) v h' n' := by
  obtain ⟨φ', v', W', e, r, s', gr⟩ := g
  exact ⟨φ', W', _, v', run_v e, rfl, r, s', gr⟩
omit [Idx P] in
theorem Gives.keeps {n : Nat} {s : Sem Value} {v v' : Value} (hs : Sim φ h W) (e : s.run P W = .ok v' W) (r : RV φ v v') : Gives φ h W n (s.run P W) v (h.up []) n :=
  ⟨φ, v', W, e, r, hs, .refl ..⟩

section ops
variable {n : Nat} (hs : Sim φ h W) {ρ ρ' : Operand → Value} {A : Array TypeId} {ty : TypeId} {as : Array Operand} (ha : ∀ x ∈ as.toList, RV φ (ρ x) (ρ' x))
include hs ha

theorem gives_len {v : Value} (e : lenA P h A (as.map ρ) = some v) : Gives φ h W n ((Builtin.len_ A ty (as.map ρ')).run P W) v (h.up []) n := by
  unfold lenA at e
  split at e
  · rename_i t x hA h0
    obtain ⟨x', hx', hr⟩ := args_rel ha h0
    split at e
    · rename_i s hu; cases e
      cases hr
      refine .keeps hs (v' := .int .i64 s.size) ?_ (.int _ _)
      simp [Builtin.len_, goInt, hA, hx', run_und hu]
    · rename_i k el hu; cases e
      refine .keeps hs (v' := .int .i64 k) ?_ (.int _ _)
      simp [Builtin.len_, goInt, hA, hx', run_und hu]
    · rename_i el a k c hu; cases e
      refine .keeps hs (v' := .int .i64 k) ?_ (.int _ _)
      cases hr <;> simp [Builtin.len_, goInt, hA, hx', run_und hu]
    · rename_i k el hu; cases e
      refine .keeps hs (v' := .int .i64 0) ?_ (.int _ _)
      cases hr
      simp [Builtin.len_, goInt, hA, hx', run_und hu]
    · rename_i k el r hu
      simp only [Option.map_eq_some_iff] at e
      obtain ⟨⟨es, c⟩, hat, rfl⟩ := e
      cases hr with
      | map hr =>
        obtain ⟨es', hw, hm⟩ := hs.mapAt hr hat
        refine .keeps hs (v' := .int .i64 es'.size) ?_ (by rw [hm.size]; exact .int _ _)
        simp [Builtin.len_, goInt, hA, hx', run_und hu, run_getObj hw]
    · cases e
  · cases e

theorem gives_cap {v : Value} (e : capA P A (as.map ρ) = some v) : Gives φ h W n ((Builtin.cap_ A ty (as.map ρ')).run P W) v (h.up []) n := by
  unfold capA at e
  split at e
  · rename_i t x hA h0
    obtain ⟨x', hx', hr⟩ := args_rel ha h0
    split at e
    · rename_i el a k c hu
      split at e
      · rename_i hex
        cases e
        have hex := Nat.eq_of_beq_eq_true hex
        refine .keeps hs (v' := .int .i64 (c / 4096 : Nat)) ?_ (.int _ _)
        cases hr with
        | sliceNil => simp [Builtin.cap_, goInt, hA, hx', run_und hu]
        | slice ra hc => simp [Builtin.cap_, goInt, hA, hx', run_und hu, hc.2.2 hex]
      · cases e
    · cases e
  · cases e

theorem gives_copy {v : Value} {u : Ups} (e : copyA P h A (as.map ρ) = some (v, u)) : Gives φ h W n ((Builtin.copy_ A ty (as.map ρ')).run P W) v (h.up u) n := by
  unfold copyA at e
  split at e
  · rename_i dType base dLen dCap src hA h0 h1
    obtain ⟨d', hd', hdr⟩ := args_rel ha h0
    obtain ⟨s', hs', hsr⟩ := args_rel ha h1
    split at e
    · rename_i el hu
      simp only [Option.bind_eq_some_iff] at e
      obtain ⟨l, hl, size, hsz, cells, hcells, e⟩ := e
      have hlen := lenOf_rel (P := P) (W := W) hsr hl
      obtain ⟨hvl, vs', hvr, hrun⟩ : cells.length = Nat.min l dLen * size ∧ ∃ vs', RL φ cells vs' ∧ (Builtin.firstCells size (Nat.min l dLen) s').run P W = .ok vs'.toArray W := by
        cases src with
        | slice a k c =>
          cases hl
          exact hs.first hsr (Nat.min_le_left _ _) hcells
        | string b =>
          have hcells : (if Nat.beq size 1 then some ((bytesOf b).take (Nat.min l dLen)) else none) = some cells := hcells
          split at hcells
          · rename_i h1
            have h1 := Nat.eq_of_beq_eq_true h1
            subst h1
            cases hcells
            cases hl
            have hbl : (bytesOf b).length = b.size := by
              unfold bytesOf
              rw [List.length_map, Array.length_toList]; rfl
            refine ⟨?_, _, RL.take _ (bytesOf_rel b), ?_⟩
            · rw [List.length_take, hbl, Nat.mul_one]
              exact Nat.min_eq_left (Nat.min_le_left _ _)
            · rw [hsr.string_inv]
              have hx : (b.extract 0 (Nat.min b.size dLen)).data.map (fun (c : UInt8) => Value.int .u8 c.toNat) = ((bytesOf b).take (Nat.min b.size dLen)).toArray := by
                apply Array.ext'
                have := Lib.extract_data b 0 (Nat.min b.size dLen)
                rw [Array.toList_map, this]
                simp [bytesOf]
              simp only [Builtin.firstCells, Sem.run_pure]
              rw [hx]
          · cases hcells
        | _ => cases hcells
      obtain ⟨base', c', rfl, hcap, hadr⟩ : ∃ a' c', d' = .slice a' dLen c' ∧ RCap dLen dCap c' ∧ ((base = none ∧ a' = none) ∨ ∃ b b', base = some b ∧ a' = some b' ∧ RS φ b b' dCap c') := by
        cases hdr with
        | sliceNil => exact ⟨none, 0, rfl, ⟨by omega, by omega, by omega⟩, .inl ⟨rfl, rfl⟩⟩
        | slice ra hc => exact ⟨_, _, rfl, hc, .inr ⟨_, _, rfl, rfl, ra⟩⟩
      have hall : (Builtin.copy_ A ty (as.map ρ')).run P W = (do (match base' with | some a => storeCells a vs' | none => pure ()); pure (goInt (Nat.min l dLen)) : Sem Value).run P W := by
        cases base' <;> simp [Builtin.copy_, hA, hd', hs', run_und hu, run_size hsz, hlen, hrun]
      rcases hadr with ⟨rfl, rfl⟩ | ⟨b, b', rfl, rfl, hb1, hb2, o', hb3, hb4, hb5⟩
      · simp only at e
        split at e
        · rename_i hemp
          cases e
          exact ⟨φ, _, W, by rw [hall]; rfl, .int _ _, hs, .refl ..⟩
        · cases e
      · simp only [Option.map_eq_some_iff] at e
        obtain ⟨u', hu', e⟩ := e
        cases e
        have hra : cells ≠ [] → RA φ b b' := fun h0 => ⟨hb1, hb2, o', hb3, hb4 (by
          have : 0 < Nat.min l dLen := by
            rcases Nat.eq_zero_or_pos (Nat.min l dLen) with hz | hz
            · rw [hz] at hvl; exact absurd (List.eq_nil_of_length_eq_zero (by simpa using hvl)) h0
            · exact hz
          have := Nat.min_le_right l dLen
          obtain ⟨h1, h2, _⟩ := hcap
          have h3 : Nat.min l dLen ≤ dLen := Nat.min_le_right l dLen
          omega)⟩
        obtain ⟨W', hst, hs2, g⟩ := hs.store (P := P) hra hvr hu' n
        refine ⟨φ, _, W', ?_, .int _ _, hs2, g⟩
        rw [hall]
        simp [hst, goInt]
    · cases e
  · cases e

theorem gives_clear (F : Fit P) {v : Value} {u : Ups} (e : clearA P h A (as.map ρ) = some (v, u)) : Gives φ h W n ((Builtin.clear_ A ty (as.map ρ')).run P W) v (h.up u) n := by
  unfold clearA at e
  split at e
  · rename_i t x hA h0
    obtain ⟨x', hx', hr⟩ := args_rel ha h0
    split at e
    · rename_i el k c hu; cases e
      refine .keeps hs (v' := undef) ?_ .undef'
      cases hr
      simp [Builtin.clear_, hA, hx', run_und hu, undef]
    · rename_i el a c hu; cases e
      refine .keeps hs (v' := undef) ?_ .undef'
      cases hr
      simp [Builtin.clear_, hA, hx', run_und hu, undef]
    · rename_i el a k c hu
      simp only [Option.bind_eq_some_iff, Option.map_eq_some_iff] at e
      obtain ⟨z, hz, u', hu', e⟩ := e
      cases e
      cases hr with
      | slice ra hc =>
        rename_i a' c'
        obtain ⟨hb1, hb2, o', hb3, hb4, hb5⟩ := ra
        have hra : RA φ a a' := ⟨hb1, hb2, o', hb3, hb4 (by obtain ⟨h1, h2, _⟩ := hc; omega)⟩
        obtain ⟨W', hst, hs2, g⟩ := hs.store (P := P) (fun _ => hra) (zeros_rel F hz (k + 1)) hu' n
        have hq : (Builtin.zeroCells z.cells (k + 1)).toList = zeros z.cells.toList (k + 1) := by
          unfold Builtin.zeroCells
          exact zeros_eq z.cells (k + 1)
        refine ⟨φ, undef, W', ?_, .undef', hs2, g⟩
        simp [Builtin.clear_, hA, hx', run_und hu, run_zero hz, hq, hst, undef]
    · cases e
  · cases e

theorem gives_delete {v : Value} {u : Ups} (e : deleteA P h A (as.map ρ) = some (v, u)) : Gives φ h W n ((Builtin.delete_ A ty (as.map ρ')).run P W) v (h.up u) n := by
  unfold deleteA at e
  split at e
  · rename_i t r k hA h0 h1
    obtain ⟨m', hm', hmr⟩ := args_rel ha h0
    obtain ⟨k', hk', hkr⟩ := args_rel ha h1
    split at e
    · rename_i kt el hu
      simp only [Option.bind_eq_some_iff] at e
      obtain ⟨⟨es, clock⟩, hat, e⟩ := e
      simp only at e
      split at e
      · rename_i hok
        simp only [Option.map_eq_some_iff] at e
        obtain ⟨i, hi, e⟩ := e
        cases e
        have hkk := RV.of_plain 1 (keyOk_plain hok) hkr
        subst hkk
        cases hmr with
        | map hr =>
          rename_i r'
          obtain ⟨es', hw, hmm⟩ := hs.mapAt hr hat
          obtain ⟨y, hf, hfd⟩ := findKey_of (W := W) hok hmm hi
          have hcut : RMap φ (cutEntry es i) (cutEntry es' i) := by
            cases i with
            | none => exact hmm
            | some j => exact hmm.erase j
          have hput := hs.putObj hr (mapAt_some hat) rfl (ob' := .map (cutEntry es i) clock) (O' := .map (cutEntry es' i) clock) (fun W' hW' => ⟨rfl, _, hW', hcut⟩) n
          refine ⟨φ, undef, _, ?_, .undef', hput.1, hput.2⟩
          cases i with
          | none =>
            cases hfd
            simp [Builtin.delete_, hA, hm', hk', run_und hu, run_getObj hw, keyOk_run (W := W) hok, hf, run_setObj hw, cutEntry, undef]
          | some j =>
            obtain ⟨e', h1, rfl⟩ := hfd.at
            simp [Builtin.delete_, hA, hm', hk', run_und hu, run_getObj hw, keyOk_run (W := W) hok, hf, run_setObj hw, cutEntry, undef]
      · cases e
    · cases e
  · cases e

omit hs in
theorem plain_args (hp : (as.map ρ).toList.all (plain 0) = true) : as.map ρ' = as.map ρ := by
  refine Array.ext_getElem? fun i => ?_
  rw [Array.getElem?_map, Array.getElem?_map]
  cases hx : as[i]? with
  | none => rfl
  | some x =>
    have hm : x ∈ as.toList := List.mem_of_getElem? (by simpa using hx : as.toList[i]? = some x)
    simp only [Array.toList_map, List.all_map, List.all_eq_true] at hp
    exact congrArg some (RV.of_plain 0 (hp x hm) (ha x hm))

theorem goes_builtin (F : Fit P) (hn : φ n = none) {b : Builtin} {consts : Array Bool} {v : Value} {u : Ups} {fr : Bool} (e : builtinA P h n b A (as.map ρ) = some (v, u, fr)) :
    Goes φ h W n ((Go.builtin b A ty consts (as.map ρ')).run P W) v (h.up u) (n + if fr then 1 else 0) := by
  unfold builtinA at e
  split at e
  · obtain ⟨φ', v', W', h1, h2, h3, h4⟩ := hs.append (P := P) (ty := ty) F hn ha e
    exact Gives.goes (s := Builtin.append_ A ty (as.map ρ')) ⟨φ', v', W', h1, h2, h3, h4⟩
  · simp only [Option.map_eq_some_iff] at e
    obtain ⟨⟨v1, u1⟩, e, e2⟩ := e
    cases e2
    exact Gives.goes (s := Builtin.copy_ A ty (as.map ρ')) (gives_copy hs ha e)
  · simp only [Option.map_eq_some_iff] at e
    obtain ⟨v1, e, e2⟩ := e
    cases e2
    exact Gives.goes (s := Builtin.len_ A ty (as.map ρ')) (gives_len hs ha e)
  · simp only [Option.map_eq_some_iff] at e
    obtain ⟨v1, e, e2⟩ := e
    cases e2
    exact Gives.goes (s := Builtin.cap_ A ty (as.map ρ')) (gives_cap hs ha e)
  · simp only [Option.map_eq_some_iff] at e
    obtain ⟨⟨v1, u1⟩, e, e2⟩ := e
    cases e2
    exact Gives.goes (s := Builtin.clear_ A ty (as.map ρ')) (gives_clear hs ha F e)
  · simp only [Option.map_eq_some_iff] at e
    obtain ⟨⟨v1, u1⟩, e, e2⟩ := e
    cases e2
    exact Gives.goes (s := Builtin.delete_ A ty (as.map ρ')) (gives_delete hs ha e)
  · split at e
    · rename_i hp
      simp only [Option.bind_eq_some_iff] at e
      obtain ⟨v1, e, e2⟩ := e
      split at e2
      · rename_i hpv
        cases e2
        refine Gives.goes (s := Builtin.min_ A ty (as.map ρ')) (.keeps hs (v' := v) ?_ (RV.of_free (free_of_plain 0 hpv)))
        rw [plain_args ha hp]
        exact pureRun_run (s := Builtin.min_ A ty (as.map ρ)) e W
      · cases e2
    · cases e
  · split at e
    · rename_i hp
      simp only [Option.bind_eq_some_iff] at e
      obtain ⟨v1, e, e2⟩ := e
      split at e2
      · rename_i hpv
        cases e2
        refine Gives.goes (s := Builtin.max_ A ty (as.map ρ')) (.keeps hs (v' := v) ?_ (RV.of_free (free_of_plain 0 hpv)))
        rw [plain_args ha hp]
        exact pureRun_run (s := Builtin.max_ A ty (as.map ρ)) e W
      · cases e2
    · cases e
  · cases e
end ops
end Go.Ab
/- Each operation that calls nothing, and chooses nothing: the model does what is told of it. -/
namespace Go.Ab
open Go
variable {P : Program} [Idx P] {φ : Phi} {h : Look} {W : World}

theorem omap_rel {ρ ρ' : Operand → Value} {x : Option Operand} (hx : ∀ y ∈ x.toArray, RV φ (ρ y) (ρ' y)) : ROptV φ (x.map ρ) (x.map ρ') := by
  cases x with
  | none => exact .none
  | some y => exact .some (hx y (by simp))

theorem same_some {x : Option Value} {v : Value} {u : Ups} {fr : Bool} (e : same x = some (v, u, fr)) : x = some v ∧ u = [] ∧ fr = false := by
  unfold same at e
  simp only [Option.map_eq_some_iff] at e
  obtain ⟨y, h1, h2⟩ := e
  cases h2; exact ⟨h1, rfl, rfl⟩
theorem does_some {x : Option Ups} {v : Value} {u : Ups} {fr : Bool} (e : does x = some (v, u, fr)) : x = some u ∧ v = undef ∧ fr = false := by
  unfold does at e
  simp only [Option.map_eq_some_iff] at e
  obtain ⟨y, h1, h2⟩ := e
  cases h2; exact ⟨h1, rfl, rfl⟩
theorem old_some {x : Option (Value × Ups)} {v : Value} {u : Ups} {fr : Bool} (e : old x = some (v, u, fr)) : x = some (v, u) ∧ fr = false := by
  unfold old at e
  simp only [Option.map_eq_some_iff] at e
  obtain ⟨⟨y, z⟩, h1, h2⟩ := e
  cases h2; exact ⟨h1, rfl⟩
theorem made_some {x : Option (Value × Ups)} {v : Value} {u : Ups} {fr : Bool} (e : made x = some (v, u, fr)) : x = some (v, u) ∧ fr = true := by
  unfold made at e
  simp only [Option.map_eq_some_iff] at e
  obtain ⟨⟨y, z⟩, h1, h2⟩ := e
  cases h2; exact ⟨h1, rfl⟩

theorem goes_op (F : Fit P) {n : Nat} (hs : Sim φ h W) (hn : φ n = none) {ρ ρ' : Operand → Value} {o : Oper} (hρ : ∀ x ∈ o.op.operands, RV φ (ρ x) (ρ' x)) (hy : noYield o.op = true) {v : Value} {u : Ups} {fr : Bool}
    (e : opA P h n ρ o.op = some (v, u, fr)) : Goes φ h W n ((execOp ρ' o).run P W) v (h.up u) (n + if fr then 1 else 0) := by
  generalize ho : o.op = op at e hρ hy
  cases op with
  | move x => cases e; exact goes_move hs (hρ x (by simp [Op.operands])) (.inl ho)
  | assign x => cases e; exact goes_move hs (hρ x (by simp [Op.operands])) (.inr ho)
  | pick c a b =>
    obtain ⟨e', rfl, rfl⟩ := same_some e
    exact goes_pick hs (hρ c (by simp [Op.operands])) (hρ a (by simp [Op.operands])) (hρ b (by simp [Op.operands])) ho e'
  | alloc t =>
    obtain ⟨e', rfl⟩ := made_some e
    exact goes_alloc hs F hn ho e'
  | box t x =>
    obtain ⟨e', rfl⟩ := made_some e
    exact goes_box hs hn (hρ x (by simp [Op.operands])) ho e'
  | build t parts =>
    obtain ⟨e', rfl, rfl⟩ := same_some e
    exact goes_build hs F (fun x hx => hρ x.2 (by simpa [Op.operands] using ⟨x.1, by simpa using hx⟩)) ho e'
  | buildSlice t len parts =>
    obtain ⟨e', rfl⟩ := made_some e
    exact goes_buildSlice hs F hn (fun x hx => hρ x.2 (by simpa [Op.operands] using ⟨x.1, by simpa using hx⟩)) ho e'
  | load t a =>
    obtain ⟨e', rfl, rfl⟩ := same_some e
    exact goes_load hs (hρ a (by simp [Op.operands])) ho e'
  | store t a x =>
    obtain ⟨e', rfl, rfl⟩ := does_some e
    exact goes_store hs (hρ a (by simp [Op.operands])) (hρ x (by simp [Op.operands])) ho e'
  | nilCheck x =>
    obtain ⟨e', rfl, rfl⟩ := same_some e
    exact goes_nilCheck hs (hρ x (by simp [Op.operands])) ho e'
  | binOp op t x y sp =>
    obtain ⟨e', rfl, rfl⟩ := same_some e
    exact goes_bin hs (hρ x (by simp [Op.operands])) (hρ y (by simp [Op.operands])) ho e'
  | unOp op t x =>
    obtain ⟨e', rfl, rfl⟩ := same_some e
    exact goes_un hs (hρ x (by simp [Op.operands])) ho e'
  | convert src dst x => exact goes_convert hs hn (hρ x (by simp [Op.operands])) ho e
  | makeInterface t x =>
    obtain ⟨e', rfl, rfl⟩ := same_some e
    exact goes_makeIface hs (hρ x (by simp [Op.operands])) ho e'
  | makeFunc fn first captured =>
    cases e
    exact goes_makeFunc hs (fun l hl => by subst hl; cases hy) (fun x hx => hρ x (by simp only [Op.operands, Array.mem_append]; exact .inl (by simpa using hx))) (fun x hx => hρ x (by simp only [Op.operands, Array.mem_append]; exact .inr (by simpa using hx))) ho
  | makeMap t r =>
    obtain ⟨e', rfl⟩ := made_some e
    exact goes_makeMap hs hn ho e'
  | makeSlice t l c =>
    obtain ⟨e', rfl⟩ := made_some e
    exact goes_makeSlice hs F hn (hρ l (by simp [Op.operands])) (hρ c (by simp [Op.operands])) ho e'
  | slice t x lo hi mx =>
    obtain ⟨e', rfl, rfl⟩ := same_some e
    refine goes_slice hs (hρ x (by simp [Op.operands])) (omap_rel fun y hy => hρ y ?_) (omap_rel fun y hy => hρ y ?_) (omap_rel fun y hy => hρ y ?_) ho e'
    · simp only [Op.operands, Array.mem_append]; exact .inl (.inl (.inr hy))
    · simp only [Op.operands, Array.mem_append]; exact .inl (.inr hy)
    · simp only [Op.operands, Array.mem_append]; exact .inr hy
  | fieldAddr s x f =>
    obtain ⟨e', rfl, rfl⟩ := same_some e
    exact goes_fieldAddr hs (hρ x (by simp [Op.operands])) ho e'
  | field t x f =>
    obtain ⟨e', rfl, rfl⟩ := same_some e
    exact goes_field hs (hρ x (by simp [Op.operands])) ho e'
  | indexAddr t x i =>
    obtain ⟨e', rfl, rfl⟩ := same_some e
    exact goes_indexAddr hs (hρ x (by simp [Op.operands])) (hρ i (by simp [Op.operands])) ho e'
  | index t x i =>
    obtain ⟨e', rfl, rfl⟩ := same_some e
    exact goes_index hs (hρ x (by simp [Op.operands])) (hρ i (by simp [Op.operands])) ho e'
  | lookup t x i ok =>
    obtain ⟨e', rfl, rfl⟩ := same_some e
    exact goes_lookup hs F (hρ x (by simp [Op.operands])) (hρ i (by simp [Op.operands])) ho e'
  | mapUpdate t m k x =>
    obtain ⟨e', rfl, rfl⟩ := does_some e
    exact goes_mapUpdate hs (hρ m (by simp [Op.operands])) (hρ k (by simp [Op.operands])) (hρ x (by simp [Op.operands])) (.inl ho) e'
  | insert t m k x =>
    obtain ⟨e', rfl, rfl⟩ := does_some e
    exact goes_mapUpdate hs (hρ m (by simp [Op.operands])) (hρ k (by simp [Op.operands])) (hρ x (by simp [Op.operands])) (.inr ho) e'
  | mapEntry t m k =>
    obtain ⟨e', rfl⟩ := old_some e
    exact goes_mapEntry hs F (hρ m (by simp [Op.operands])) (hρ k (by simp [Op.operands])) ho e'
  | entryStore t m s x =>
    obtain ⟨e', rfl, rfl⟩ := does_some e
    exact goes_entryStore hs (hρ m (by simp [Op.operands])) (hρ s (by simp [Op.operands])) (hρ x (by simp [Op.operands])) ho e'
  | range t x =>
    obtain ⟨e', rfl⟩ := made_some e
    exact goes_range hs hn (hρ x (by simp [Op.operands])) ho e'
  | entry it =>
    obtain ⟨e', rfl, rfl⟩ := same_some e
    exact goes_entry hs (hρ it (by simp [Op.operands])) ho e'
  | typeAssert x xt asserted ok =>
    obtain ⟨e', rfl, rfl⟩ := same_some e
    exact goes_typeAssert hs F (hρ x (by simp [Op.operands])) ho e'
  | extract t i =>
    obtain ⟨e', rfl, rfl⟩ := same_some e
    exact goes_extract hs (hρ t (by simp [Op.operands])) ho e'
  | call c =>
    have e : callA P h n ρ c = some (v, u, fr) := e
    unfold callA at e
    split at e
    · rename_i b hb
      have := goes_builtin (P := P) (ty := o.type) (consts := c.args.map fun | .const _ => true | _ => false) hs (A := c.argTypes) (as := c.args) (ρ := ρ) (ρ' := ρ')
        (fun x hx => hρ x (by simp only [Op.operands, Call.operands, Array.mem_append]; exact .inr (by simpa using hx))) F hn e
      have hx : execOp ρ' o = Go.builtin b c.argTypes o.type (c.args.map fun | .const _ => true | _ => false) (c.args.map ρ') := by
        simp only [execOp, ho, resolve, hb]
        rfl
      rw [hx]; exact this
    · cases e
  | _ => cases e
end Go.Ab
/- The abstract run against the model: what is between the two. -/
namespace Go.Ab
open Go
variable {P : Program} [Idx P] {φ : Phi} {W : World}

/-! ### several ways on -/
theorem collect_ok {α β : Type} {f : α → St → Res β} : ∀ {l : List (α × St)}, collect f l ≠ .bad → ∀ p ∈ l, f p.1 p.2 ≠ .bad ∧ ∀ q ∈ (f p.1 p.2).list, q ∈ (collect f l).list
  | [], _, p, hp => by cases hp
  | (a, s) :: l, h, p, hp => by
    have hc : collect f ((a, s) :: l) = (match f a s, collect f l with | .bad, _ | _, .bad => .bad | x, y => .alt (x.list ++ y.list)) := rfl
    cases hx : f a s with
    | bad => rw [hc, hx] at h; exact absurd rfl h
    | _ =>
      cases hy : collect f l with
      | bad => rw [hc, hx, hy] at h; exact absurd rfl h
      | _ =>
        have ih := collect_ok (f := f) (l := l) (by rw [hy]; simp)
        rw [hc, hx, hy]
        cases hp with
        | head =>
          simp only [hx]
          exact ⟨by simp, fun q hq => List.mem_append_left _ hq⟩
        | tail _ hp =>
          obtain ⟨h1, h2⟩ := ih p hp
          refine ⟨h1, fun q hq => List.mem_append_right _ ?_⟩
          have := h2 q hq
          rw [hy] at this; exact this
theorem bind_ok {α β : Type} {x : Res α} {f : α → St → Res β} (h : x.bind f ≠ .bad) : x ≠ .bad ∧ ∀ p ∈ x.list, f p.1 p.2 ≠ .bad ∧ ∀ q ∈ (f p.1 p.2).list, q ∈ (x.bind f).list := by
  cases x with
  | ok a s =>
    refine ⟨by simp, fun p hp => ?_⟩
    simp only [Res.list, List.mem_singleton] at hp
    subst hp
    exact ⟨h, fun q hq => hq⟩
  | alt l => exact ⟨by simp, collect_ok h⟩
  | bad => exact absurd rfl h

/-! ### activations -/
inductive RDf (φ : Phi) : Deferred → Deferred → Prop
  | mark {b b' : Nat} (h : RB φ b b') : RDf φ ⟨.collected b, #[]⟩ ⟨.collected b', #[]⟩
  | fn {f f' : Fn} {x x' y y' : Array Value} (hf : RFn φ f f') (hx : RL φ x.toList x'.toList) (hy : RL φ y.toList y'.toList) : RDf φ ⟨.fn f x, y⟩ ⟨.fn f' x', y'⟩
inductive RDs (φ : Phi) : List Deferred → List Deferred → Prop
  | nil : RDs φ [] []
  | cons {d d' : Deferred} {l l' : List Deferred} (h : RDf φ d d') (t : RDs φ l l') : RDs φ (d :: l) (d' :: l')
theorem RDf.mono {φ ψ : Phi} (h : φ.le ψ) {d d' : Deferred} (r : RDf φ d d') : RDf ψ d d' := by
  cases r with
  | mark x => exact .mark (x.mono h)
  | fn a b c => exact .fn (a.mono h) (b.mono h) (c.mono h)
theorem RDs.mono {φ ψ : Phi} (h : φ.le ψ) : ∀ {l l' : List Deferred}, RDs φ l l' → RDs ψ l l'
  | _, _, .nil => .nil
  | _, _, .cons x t => .cons (x.mono h) (RDs.mono h t)
structure RAct (φ : Phi) (N : Nat) (a : A) (act : Act) : Prop where
  size : N ≤ act.tmps.size
  tmps : RT φ a.tmps act.tmps
  defers : RDs φ a.defers act.defers
theorem RAct.mono {φ ψ : Phi} (h : φ.le ψ) {N : Nat} {a : A} {act : Act} (r : RAct φ N a act) : RAct ψ N a act := ⟨r.size, r.tmps.mono h, r.defers.mono h⟩

theorem RT.set {tm : T Value} {arr : Array Value} (r : RT φ tm arr) {t : Nat} {v v' : Value} (ht : t < arr.size) (hv : RV φ v v') : RT φ (tm.set t v) (arr.setIfInBounds t v') := fun i => by
  rw [T.get_set]
  by_cases e : i = t
  · subst e
    rw [if_pos rfl]
    simpa [Array.getD, ht] using hv
  · rw [if_neg e]
    have : (arr.setIfInBounds t v').getD i undef = arr.getD i undef := by
      rw [Array.getD_eq_getD_getElem?, Array.getD_eq_getD_getElem?, Array.getElem?_setIfInBounds, if_neg (fun h => e h.symm)]
    rw [this]; exact r i
theorem RAct.put {N : Nat} {a : A} {act : Act} (r : RAct φ N a act) {dst : Option Tmp} (hd : ∀ d, dst = some d → d < N) {v v' : Value} (hv : RV φ v v') : RAct φ N (a.put dst v) (act.put dst v') := by
  cases dst with
  | none => exact r
  | some d =>
    have := hd d rfl
    exact ⟨by simp [Act.put]; exact r.size, r.tmps.set (Nat.lt_of_lt_of_le this r.size) hv, r.defers⟩

/-- Operands stand as they must. -/
theorem eval_rel {G N : Nat} {a : A} {act : Act} (r : RAct φ N a act) (hG : Globs φ G) {x : Operand} (hx : operandOk G N x = true) : RV φ (evalO a.tmps x) (act.eval x) := by
  cases x with
  | tmp t => exact r.tmps t
  | const v => exact RV.of_free hx
  | global g =>
    obtain ⟨t, ht⟩ := hG g (Nat.le_of_ble_eq_true hx)
    exact .ptr ⟨rfl, rfl, _, ht, rfl⟩
  | func f => exact .func (.func f) .nil .nil

/-- What holds between the two at every step. -/
structure Inv (P : Program) (φ : Phi) (h : Look) (n : Nat) (W : World) : Prop where
  sim : Sim φ h W
  fresh : ∀ b, n ≤ b → φ b = none
  globs : Globs φ P.globals.size
omit [Idx P] in
theorem Inv.new {h : Look} {n : Nat} (i : Inv P φ h n W) : φ n = none := i.fresh n (Nat.le_refl _)
omit [Idx P] in
theorem Inv.after {h h' : Look} {n n' : Nat} {φ' : Phi} {W' : World} (i : Inv P φ h n W) (s : Sim φ' h' W') (g : Grew φ h W n φ' h' W' n') : Inv P φ' h' n' W' where
  sim := s
  fresh b hb := by
    cases e : φ' b with
    | none => rfl
    | some x =>
      have := g.dom b (i.fresh b (Nat.le_trans g.next hb)) (by rw [e]; simp)
      omega
  globs := i.globs.mono g.le

/-- From one to the next. -/
def To (P : Program) (φ : Phi) (h : Look) (n : Nat) (W : World) (φ' : Phi) (h' : Look) (n' : Nat) (W' : World) : Prop := Inv P φ' h' n' W' ∧ Grew φ h W n φ' h' W' n'
omit [Idx P] in
theorem To.refl {h : Look} {n : Nat} (i : Inv P φ h n W) : To P φ h n W φ h n W := ⟨i, .refl ..⟩
omit [Idx P] in
theorem To.trans {φ₁ φ₂ φ₃ : Phi} {h₁ h₂ h₃ : Look} {n₁ n₂ n₃ : Nat} {W₁ W₂ W₃ : World} (a : To P φ₁ h₁ n₁ W₁ φ₂ h₂ n₂ W₂) (b : To P φ₂ h₂ n₂ W₂ φ₃ h₃ n₃ W₃) : To P φ₁ h₁ n₁ W₁ φ₃ h₃ n₃ W₃ :=
  ⟨b.1, a.2.trans b.2⟩
omit [Idx P] in
theorem To.le {φ' : Phi} {h h' : Look} {n n' : Nat} {W' : World} (t : To P φ h n W φ' h' n' W') : φ.le φ' := t.2.le

/-- A value comes of it. -/
def ToV (P : Program) (E : Env) (φ : Phi) (s : St) (W : World) (res : Res Value) (v' : Value) (W' : World) : Prop :=
  ∃ v s' φ', (v, s') ∈ res.list ∧ RV φ' v v' ∧ To P φ (s.look E) s.next W φ' (s'.look E) s'.next W'
/-- An activation comes of it. -/
def ToA (P : Program) (E : Env) (N : Nat) (φ : Phi) (s : St) (W : World) (res : Res A) (act' : Act) (W' : World) : Prop :=
  ∃ a s' φ', (a, s') ∈ res.list ∧ RAct φ' N a act' ∧ To P φ (s.look E) s.next W φ' (s'.look E) s'.next W'
def exitOf : Ex → Exit
  | .normal => .normal
  | .exit id => .exit id
  | .goto l => .goto l
  | .ret => .ret
/-- A statement is left so. -/
def ToC (P : Program) (E : Env) (N : Nat) (φ : Phi) (s : St) (W : World) (res : Res (Ex × A)) (e : Exit) (act' : Act) (W' : World) : Prop :=
  ∃ x a s' φ', ((x, a), s') ∈ res.list ∧ e = exitOf x ∧ RAct φ' N a act' ∧ To P φ (s.look E) s.next W φ' (s'.look E) s'.next W'

omit [Idx P] in
theorem ToA.lift {E : Env} {N : Nat} {s s₁ : St} {φ₁ : Phi} {W₁ : World} {res res₁ : Res A} {act' : Act} {W' : World} (t : To P φ (s.look E) s.next W φ₁ (s₁.look E) s₁.next W₁) (hsub : ∀ q ∈ res₁.list, q ∈ res.list) (h : ToA P E N φ₁ s₁ W₁ res₁ act' W') : ToA P E N φ s W res act' W' :=
  let ⟨a, s', φ', m, r, t'⟩ := h; ⟨a, s', φ', hsub _ m, r, t.trans t'⟩
omit [Idx P] in
theorem ToV.lift {E : Env} {s s₁ : St} {φ₁ : Phi} {W₁ : World} {res res₁ : Res Value} {v' : Value} {W' : World} (t : To P φ (s.look E) s.next W φ₁ (s₁.look E) s₁.next W₁) (hsub : ∀ q ∈ res₁.list, q ∈ res.list) (h : ToV P E φ₁ s₁ W₁ res₁ v' W') : ToV P E φ s W res v' W' :=
  let ⟨a, s', φ', m, r, t'⟩ := h; ⟨a, s', φ', hsub _ m, r, t.trans t'⟩
omit [Idx P] in
theorem ToC.lift {E : Env} {N : Nat} {s s₁ : St} {φ₁ : Phi} {W₁ : World} {res res₁ : Res (Ex × A)} {e : Exit} {act' : Act} {W' : World} (t : To P φ (s.look E) s.next W φ₁ (s₁.look E) s₁.next W₁) (hsub : ∀ q ∈ res₁.list, q ∈ res.list) (h : ToC P E N φ₁ s₁ W₁ res₁ e act' W') : ToC P E N φ s W res e act' W' :=
  let ⟨x, a, s', φ', m, he, r, t'⟩ := h; ⟨x, a, s', φ', hsub _ m, he, r, t.trans t'⟩

/-- What the model's operation hands on comes to a value of which 'next' holds. -/
def Does (P : Program) (next : Value → World → Prop) : Result Next → Prop
  | .ok (.value v) W => next v W
  | .ok .skip W => next undef W
  | .ok (.enter f args) W => CallsIn Fence.wide 0 P f args W (fun e W' => ∃ v, e = .returned v ∧ next v W')
  | .ok (.round l f tmps assign body) W => RoundIn Fence.wide 0 P l f tmps assign body W (fun e W' => ∃ v, e = .returned v ∧ next v W')
  | _ => False

/-- In which frames an activation of this kind runs. -/
def RRnd (φ : Phi) : Option Nat → Fence → Prop
  | none, F => F = Fence.wide
  | some l, F => ∃ l', RB φ l l' ∧ F = Fence.wide.inRound l'
theorem RRnd.mono {φ ψ : Phi} (h : φ.le ψ) : ∀ {r : Option Nat} {F : Fence}, RRnd φ r F → RRnd ψ r F
  | none, _, e => e
  | some _, _, ⟨l', x, e⟩ => ⟨l', x.mono h, e⟩
theorem RRnd.fn {r : Option Nat} {F : Fence} (h : RRnd φ r F) (f : FuncId) : F.fn f := by
  cases r with
  | none => cases h; trivial
  | some l => obtain ⟨l', _, rfl⟩ := h; trivial
theorem RRnd.depth {r : Option Nat} {F : Fence} (h : RRnd φ r F) : F.depth = none := by
  cases r with
  | none => cases h; rfl
  | some l => obtain ⟨l', _, rfl⟩ := h; rfl
omit [Idx P] in
theorem RRnd.calls {r : Option Nat} {F : Fence} (h : RRnd φ r F) {n : Nat} {f : FuncId} {args : Array Value} {R : Ending → World → Prop} (c : CallsIn Fence.wide 0 P f args W R) : CallsIn F n P f args W R := by
  have c : CallsIn Fence.wide n P f args W R := c.more (Nat.zero_le _)
  cases r with
  | none => cases h; exact c
  | some l => obtain ⟨l', _, rfl⟩ := h; exact c
omit [Idx P] in
theorem RRnd.round {r : Option Nat} {F : Fence} (h : RRnd φ r F) {l : Nat} {f : FuncId} {tmps : Array Value} {x y : Code} {R : Ending → World → Prop} (c : RoundIn Fence.wide 0 P l f tmps x y W R) : RoundIn F 0 P l f tmps x y W R := by
  cases r with
  | none => cases h; exact c
  | some l => obtain ⟨l', _, rfl⟩ := h; exact c
omit [Idx P] in
theorem Does.upon {r : Option Nat} {F : Fence} (hF : RRnd φ r F) {o : Oper} {act : Act} {next : Value → World → Prop} {K : Act → World → Prop} {Q : Exit → Act → World → Prop} {res : Result Next} (d : Does P next res)
    (hK : ∀ v W, next v W → K (act.put o.dst v) W) : o.uponIn F 0 P act K Q res := by
  cases res with
  | halt q w => exact d.elim
  | ok x w =>
    cases x <;> first
      | exact d.elim
      | exact hK _ _ d
      | (refine ⟨fun hd => (by rw [hF.depth] at hd; cases hd), CallsIn.mono (hF.calls d) fun e w' he => ?_⟩
         obtain ⟨v, rfl, hv⟩ := he
         exact hK _ _ hv)
      | (refine ⟨fun hd => (by rw [hF.depth] at hd; cases hd), RoundIn.mono (hF.round d) fun e w' he => ?_⟩
         obtain ⟨v, rfl, hv⟩ := he
         exact hK _ _ hv)
omit [Idx P] in
theorem Does.mono {next next' : Value → World → Prop} {res : Result Next} (d : Does P next res) (h : ∀ v W, next v W → next' v W) : Does P next' res := by
  cases res with
  | halt q w => exact d.elim
  | ok x w =>
    cases x <;> first
      | exact d.elim
      | exact h _ _ d
      | exact CallsIn.mono d fun e w' ⟨v, he, hv⟩ => ⟨v, he, h _ _ hv⟩
      | exact RoundIn.mono d fun e w' ⟨v, he, hv⟩ => ⟨v, he, h _ _ hv⟩
omit [Idx P] in
theorem Goes.does {h h' : Look} {n n' : Nat} {res : Result Next} {v : Value} (g : Goes φ h W n res v h' n') : Does P (fun v' W' => ∃ φ', RV φ' v v' ∧ Sim φ' h' W' ∧ Grew φ h W n φ' h' W' n') res := by
  obtain ⟨φ', W', nv, v', rfl, hv, r, s, gr⟩ := g
  cases nv <;> first
    | (cases hv; done)
    | (cases hv; exact ⟨φ', r, s, gr⟩)

/-! ### what is done by less fuel -/
structure FnsOk (P : Program) (r : Fns) : Prop where
  code : ∀ c rnd a E s N G φ act W F, codeOk G N c = true → Globs φ G → RAct φ N a act → Inv P φ (s.look E) s.next W → RRnd φ rnd F → r.code c rnd a E s ≠ .bad →
    c.wpIn F 0 P (ToC P E N φ s W (r.code c rnd a E s)) act W
  loop : ∀ c rnd a E s N G φ act W F, codeOk G N c = true → Globs φ G → RAct φ N a act → Inv P φ (s.look E) s.next W → RRnd φ rnd F → r.loop c rnd a E s ≠ .bad →
    (Code.loop c).wpIn F 0 P (ToC P E N φ s W (r.loop c rnd a E s)) act W ∧
    ∀ (b : Frame) (k : List Item) (cs : List Frame), b.roundOf = F.round → F.fn b.fn → F.room (cs.length + 1 + 0) →
      ∃ e a' w', ToC P E N φ s W (r.loop c rnd a E s) e a' w' ∧ ArrivesIn (Machine.fenced P F) P (lone (b.atR act (.inLoop c :: k)) cs W) b k cs e a' w'
  scope : ∀ c rnd a E s N G φ act W F, codeOk G N c = true → Globs φ G → RAct φ N a act → Inv P φ (s.look E) s.next W → RRnd φ rnd F → r.scope c c rnd a E s ≠ .bad →
    (Code.scope c).wpIn F 0 P (ToC P E N φ s W (r.scope c c rnd a E s)) act W
  callF : ∀ f args args' E s φ W, RL φ args args'.toList → Inv P φ (s.look E) s.next W → r.callF f args E s ≠ .bad →
    Does P (ToV P E φ s W (r.callF f args E s)) ((callFunc f args').run P W)
end Go.Ab
/- The abstract run against the model: calls and operations. -/
namespace Go.Ab
open Go
variable {P : Program} [Idx P] {φ : Phi} {W : World}

/-! ### rounds of a range over a function -/
theorem setParams_rel : ∀ {ps : List Tmp} {as : List Value} {as' : List Value} {tm : T Value} {arr : Array Value}, RT φ tm arr → RL φ as as' → (∀ t ∈ ps, t < arr.size) →
    RT φ (setParams tm ps as) ((ps.zip as').foldl (fun (arr : Array Value) (x : Tmp × Value) => arr.setIfInBounds x.1 x.2) arr) ∧ ((ps.zip as').foldl (fun (arr : Array Value) (x : Tmp × Value) => arr.setIfInBounds x.1 x.2) arr).size = arr.size
  | [], _, _, _, _, h, _, _ => by simp only [setParams, List.zip_nil_left, List.foldl_nil]; exact ⟨h, trivial⟩
  | _ :: _, _, _, _, _, h, .nil, _ => by simp only [setParams, List.zip_nil_right, List.foldl_nil]; exact ⟨h, trivial⟩
  | t :: ps, _, _, tm, arr, h, .cons hv ht, hp => by
    simp only [setParams, List.zip_cons_cons, List.foldl_cons]
    have := setParams_rel (ps := ps) (h.set (hp t (by simp)) hv) ht (fun u hu => by simpa using hp u (by simp [hu]))
    refine ⟨this.1, ?_⟩
    rw [this.2]; simp

theorem Sim.loopAt {h : Look} (s : Sim φ h W) {l l' : Nat} (hl : RB φ l l') {lo : LoopA} (e : h l = some (.loop lo)) : ∃ lo', W.heap[l']? = some (.loop lo') ∧ RLoop φ lo lo' := by
  obtain ⟨B, o, hφ, ho, lo', hw, hr⟩ := s.obj l _ e
  have : φ l = some (l', ⟨0, 0⟩) := hl
  rw [hφ] at this; cases this
  exact ⟨lo', hw, hr⟩
omit [Idx P] in
theorem run_getLoop {l' : Nat} {lo' : Loop} (e : W.heap[l']? = some (.loop lo')) : (Instr.getLoop l').run P W = .ok lo' W := by
  unfold Instr.getLoop
  simp only [Sem.run_bind, run_getObj e (by intros; simp), Result.andThen_ok]
  rfl
omit [Idx P] in
/-- The record of a loop is another one. -/
theorem Inv.setLoop {s : St} {E : Env} (i : Inv P φ (s.look E) s.next W) {l l' : Nat} (hl : RB φ l l') {lo : LoopA} (e : s.look E l = some (.loop lo)) {lo1 : LoopA} {lo1' : Loop} (hr : RLoop φ lo1 lo1') :
    To P φ (s.look E) s.next W φ ((setState s l lo1).look E) (setState s l lo1).next { W with heap := W.heap.setIfInBounds l' (.loop lo1') } := by
  have hput := i.sim.putObj hl e rfl (ob' := .loop lo1) (O' := .loop lo1') (fun W' hW' => ⟨rfl, lo1', hW', hr⟩) s.next
  have h1 : (setState s l lo1).look E = (s.look E).up [(l, some (.loop lo1))] := St.look_after ..
  have h2 : (setState s l lo1).next = s.next := by unfold setState; rw [St.next_after]; rfl
  rw [h1, h2]
  exact ⟨i.after hput.1 hput.2, hput.2⟩

omit [Idx P] in
theorem round_ok {r : Fns} (R : FnsOk P r) {l l' : Nat} {args : List Value} {args' : Array Value} {E : Env} {s : St} (hl : RB φ l l') (ha : RL φ args args'.toList) (i : Inv P φ (s.look E) s.next W) (h : roundA r l args E s ≠ .bad) :
    Does P (ToV P E φ s W (roundA r l args E s)) ((Instr.yield l' args').run P W) := by
  generalize hres : roundA r l args E s = res at h ⊢
  unfold roundA at hres
  split at hres
  · rename_i lo hlo
    split at hres
    · rename_i hlen
      have hlen := Nat.eq_of_beq_eq_true hlen
      obtain ⟨lo', hw, hr⟩ := i.sim.loopAt hl hlo
      subst hres
      obtain ⟨h1, h2⟩ := bind_ok h
      obtain ⟨G, n, hG, hn, hca, hcb, hps⟩ := hr.fit
      have hsz : args'.size = lo'.params.size := by rw [hr.params, ← hlen, ha.length]; simp
      have hrun : (Instr.yield l' args').run P W = .ok (.round l' lo'.fn ((lo'.params.zip args').foldl (fun tmps (t, a) => tmps.setIfInBounds t a) lo'.tmps) lo'.assign lo'.body) W := by
        unfold Instr.yield
        simp only [Sem.run_bind, run_getLoop hw, Result.andThen_ok, hsz, ne_eq, not_true_eq_false, if_false]
        rfl
      rw [hrun]
      have hfold : (lo'.params.zip args').foldl (fun tmps (t, a) => tmps.setIfInBounds t a) lo'.tmps = (lo'.params.toList.zip args'.toList).foldl (fun (arr : Array Value) (x : Tmp × Value) => arr.setIfInBounds x.1 x.2) lo'.tmps := by
        rw [← Array.foldl_toList, Array.toList_zip]
      obtain ⟨hrt, hrs⟩ := setParams_rel (ps := lo'.params.toList) hr.tmps ha (fun t ht => by rw [hr.params] at ht; exact Nat.lt_of_lt_of_le (hps t ht) hn)
      rw [← hfold] at hrt hrs
      have hpe : lo.params = lo'.params := hr.params.symm
      refine roundIn_of_wpIn (P := P) (F := Fence.wide) trivial ?_
      have hact : RAct φ n { tmps := setParams lo.tmps lo.params.toList args, defers := [] } { tmps := (lo'.params.zip args').foldl (fun tmps (t, a) => tmps.setIfInBounds t a) lo'.tmps, defers := [] } := ⟨by rw [hrs]; exact hn, by rw [hpe]; exact hrt, .nil⟩
      rw [hr.assign, hr.body]
      refine wpIn_mono (R.code lo.assign (some l) _ E s n G φ _ W (Fence.wide.inRound l') hca hG hact i ⟨l', hl, rfl⟩ h1) fun e act1 W1 ht => ?_
      obtain ⟨x, a1, s1, φ1, hm, rfl, hr1, t1⟩ := ht
      obtain ⟨h3, h4⟩ := h2 _ hm
      simp only at h3 h4
      unfold roundC at h3 h4
      split at h3
      · rename_i lo1 hlo1
        split at h3
        · rename_i hst
          simp only [hlo1, hst, if_true] at h4
          obtain ⟨h5, h6⟩ := bind_ok h3
          have hl1 := hl.mono t1.le
          obtain ⟨lo1', hw1, hrl1⟩ := t1.1.sim.loopAt hl1 hlo1
          have t2 := t1.1.setLoop hl1 hlo1 (lo1 := { lo1 with state := .busy }) (lo1' := { lo1' with state := .busy })
            ⟨rfl, hrl1.pending, hrl1.params, hrl1.assign, hrl1.body, hrl1.tmps, hrl1.defers, hrl1.fit, hrl1.jump⟩
          refine ⟨{ W1 with heap := W1.heap.setIfInBounds l' (.loop { lo1' with state := .busy }) }, ?_, ?_⟩
          · unfold Instr.beginRound
            have hst' : lo1'.state = .ready := by rw [hrl1.state, hst]
            simp only [Sem.run_bind, run_getLoop hw1, Result.andThen_ok, run_setObj hw1 (by intros; simp), hst']
            rfl
          · refine wpIn_mono (R.code lo.body (some l) a1 E _ n G φ1 act1 _ (Fence.wide.inRound l') hcb (hG.mono t1.le) hr1 t2.1 ⟨l', hl1, rfl⟩ h5) fun e2 act2 W3 ht2 => ?_
            obtain ⟨x2, a2, s3, φ3, hm2, rfl, hr3, t3⟩ := ht2
            obtain ⟨h7, h8⟩ := h6 _ hm2
            simp only at h7 h8
            unfold roundB at h7 h8
            split at h7
            · rename_i lo3 hlo3
              simp only [hlo3] at h8
              have hl3 := hl1.mono t3.le
              obtain ⟨lo3', hw3, hrl3⟩ := t3.1.sim.loopAt hl3 hlo3
              have t4 := t3.1.setLoop hl3 hlo3 (lo1 := { lo3 with state := if (jumpOf x2).isNone then .ready else .done, pending := jumpOf x2 }) (lo1' := { lo3' with state := if (jumpOf x2).isNone then .ready else .done, pending := jumpOf x2 })
                ⟨rfl, rfl, hrl3.params, hrl3.assign, hrl3.body, hrl3.tmps, hrl3.defers, hrl3.fit, fun c hc => ⟨x2, hc⟩⟩
              have hend : (Instr.endRound l' (jumpOf x2)).run P W3 = .ok (.bool (jumpOf x2).isNone) { W3 with heap := W3.heap.setIfInBounds l' (.loop { lo3' with state := if (jumpOf x2).isNone then .ready else .done, pending := jumpOf x2 }) } := by
                unfold Instr.endRound
                simp only [Sem.run_bind, run_getLoop hw3, Result.andThen_ok, run_setObj hw3 (by intros; simp)]
                rfl
              have hfin : ∃ v w', (Instr.endRound l' (jumpOf x2)).run P W3 = .ok v w' ∧ (∃ v1, Ending.returned v = .returned v1 ∧ ToV P E φ s W ((r.code lo.assign (some l) { tmps := setParams lo.tmps lo.params.toList args, defers := [] } E s).bind fun x s => roundC r l lo.body x.1 x.2 E s) v1 w') :=
                ⟨_, _, hend, _, rfl, .bool (jumpOf x2).isNone, _, φ3, h4 _ (h8 _ (by simp [Res.list])), .bool _, ((t1.trans t2).trans t3).trans t4⟩
              cases x2 <;> exact hfin
            · exact absurd rfl h7
        · exact absurd rfl h3
      · exact absurd rfl h3
    · subst hres; exact absurd rfl h
  · subst hres; exact absurd rfl h

/-! ### methods -/
theorem run_method {t : TypeId} {v : Value} {name : String} {f : FuncId} (e : methodA P t name = some f) : (Go.method (P.types.size + Made.depth) t v name).run P W = .ok (f, v) W := by
  unfold methodA at e
  split at e
  · rename_i m hm
    split at e
    · rename_i hpath
      simp only [Option.bind_eq_some_iff] at hm
      obtain ⟨i, hi, hfind⟩ := hm
      have hpath : m.path = #[] := by simpa using hpath
      have hfuel : ∃ k, P.types.size + Made.depth = k + 1 := ⟨P.types.size + 99, rfl⟩
      obtain ⟨k, hk⟩ := hfuel
      rw [hk]
      unfold Go.method
      simp only [Sem.run_bind, run_info hi, Result.andThen_ok, hfind, hpath, Array.toList_empty, Go.follow, Sem.run_pure]
      split at e
      · rename_i f1 d hf hu
        cases e
        simp only [hf, Sem.run_bind, Go.receiverAt, run_und hu, Result.andThen_ok, Go.Place.get, Sem.run_pure]
      · cases e
      · rename_i f1 d hno hf hu
        cases e
        simp only [hf, Sem.run_bind, Go.receiverAt, run_und hu, Result.andThen_ok]
        cases d <;> first
          | exact absurd hu (hno _)
          | simp [Go.Place.get]
      · cases e
    · cases e
  · cases e

theorem callM_ok {r : Fns} (R : FnsOk P r) {recv recv' : Value} {name : String} {args : List Value} {args' : Array Value} {E : Env} {s : St} (hv : RV φ recv recv') (ha : RL φ args args'.toList) (i : Inv P φ (s.look E) s.next W)
    (h : callM P r recv name args E s ≠ .bad) : Does P (ToV P E φ s W (callM P r recv name args E s)) ((callMethod recv' name args').run P W) := by
  generalize hres : callM P r recv name args E s = res at h ⊢
  unfold callM at hres
  split at hres
  · rename_i t v
    cases hv with
    | iface hv =>
      rename_i v'
      split at hres
      · rename_i f hf
        subst hres
        have hrun : (callMethod (.iface t v') name args').run P W = (callFunc f (#[v'] ++ args')).run P W := by
          unfold callMethod
          simp only [Sem.run_bind, run_program, Result.andThen_ok, run_method hf]
        rw [hrun]
        exact R.callF f (v :: args) (#[v'] ++ args') E s φ W (by simpa using RL.cons hv ha) i h
      · subst hres; exact absurd rfl h
  · subst hres; exact absurd rfl h

theorem RL.head {x y : List Value} (h : RL φ x y) : (x = [] ∧ y = []) ∨ ∃ a b l k, x = a :: l ∧ y = b :: k ∧ RV φ a b ∧ RL φ l k := by
  cases h with
  | nil => exact .inl ⟨rfl, rfl⟩
  | cons a b => exact .inr ⟨_, _, _, _, rfl, rfl, a, b⟩
theorem array_cons {y : Array Value} {b : Value} {k : List Value} (h : y.toList = b :: k) : y[0]? = some b ∧ (y.extract 1 y.size).toList = k := by
  cases y with
  | mk l => simp at h; subst h; simp

theorem callV_ok {r : Fns} (R : FnsOk P r) {f f' : Value} {args : List Value} {args' : Array Value} {E : Env} {s : St} (hv : RV φ f f') (ha : RL φ args args'.toList) (i : Inv P φ (s.look E) s.next W)
    (h : callV P r f args E s ≠ .bad) : Does P (ToV P E φ s W (callV P r f args E s)) ((do let d ← Deferred.ofValue f' args'; invoke d.target d.args : Sem Next).run P W) := by
  generalize hres : callV P r f args E s = res at h ⊢
  unfold callV at hres
  split at hres
  · rename_i g first captured
    cases hv with
    | func hf hx hy =>
      cases hf
      rename_i x' y'
      subst hres
      have hrun : (do let d ← Deferred.ofValue (.func (.func g) x' y') args'; invoke d.target d.args : Sem Next).run P W = (callFunc g (x' ++ args' ++ y')).run P W := by
        simp [Deferred.ofValue, invoke]
      rw [hrun]
      exact R.callF g _ _ E s φ W (by simpa using (hx.append ha).append hy) i h
  · rename_i name first captured
    cases hv with
    | func hf hx hy =>
      cases hf
      rename_i x' y'
      rcases (hx.append ha).head with ⟨h1, _⟩ | ⟨a, b, l, k, h1, h2, hab, hlk⟩
      · rw [h1] at hres; subst hres; exact absurd rfl h
      · rw [h1] at hres
        subst hres
        obtain ⟨e1, e2⟩ := array_cons (y := x' ++ args') (by simpa using h2)
        have hrun : (do let d ← Deferred.ofValue (.func (.method name) x' y') args'; invoke d.target d.args : Sem Next).run P W = (callMethod b name ((x' ++ args').extract 1 (x' ++ args').size)).run P W := by
          simp only [Deferred.ofValue, invoke, Sem.run_bind, Sem.run_pure, Result.andThen_ok, e1]
        rw [hrun]
        exact callM_ok R hab (by rw [e2]; exact hlk) i h
  · rename_i l first captured
    cases hv with
    | func hf hx hy =>
      cases hf with
      | yield hl =>
        rename_i x' y' l'
        subst hres
        have hrun : (do let d ← Deferred.ofValue (.func (.yield l') x' y') args'; invoke d.target d.args : Sem Next).run P W = (Instr.yield l' (x' ++ args')).run P W := by
          simp [Deferred.ofValue, invoke]
        rw [hrun]
        exact round_ok R hl (by simpa using hx.append ha) i h
  · rename_i t path g pointer first captured
    cases hv with
    | func hf hx hy =>
      cases hf
      rename_i x' y'
      rcases (hx.append ha).head with ⟨h1, _⟩ | ⟨a, b, l, k, h1, h2, hab, hlk⟩
      · rw [h1] at hres; subst hres; exact absurd rfl h
      · rw [h1] at hres
        simp only at hres
        split at hres
        · rename_i hvia
          subst hres
          obtain ⟨e1, e2⟩ := array_cons (y := x' ++ args') (by simpa using h2)
          unfold viaA at hvia
          simp only [Bool.and_eq_true] at hvia
          obtain ⟨hp, hvia⟩ := hvia
          have hp : path = #[] := by simpa using hp
          subst hp
          have hrecv : (Go.receiverVia t b #[] pointer).run P W = .ok b W := by
            unfold Go.receiverVia
            simp only [Sem.run_bind, Go.follow, Sem.run_pure, Result.andThen_ok]
            unfold Go.receiverAt
            split at hvia
            · rename_i hu; simp [Sem.run_bind, run_und hu, Go.Place.get]
            · cases hvia
            · rename_i d hno hu
              simp only [Sem.run_bind, run_und hu, Result.andThen_ok]
              cases d <;> first
                | exact absurd hu (hno _)
                | simp [Go.Place.get]
            · cases hvia
          have hrun : (do let d ← Deferred.ofValue (.func (.via t #[] g pointer) x' y') args'; invoke d.target d.args : Sem Next).run P W = (callFunc g (#[b] ++ (x' ++ args').extract 1 (x' ++ args').size)).run P W := by
            simp only [Deferred.ofValue, invoke, Sem.run_bind, Sem.run_pure, Result.andThen_ok, e1, hrecv]
          rw [hrun]
          exact R.callF g _ _ E s φ W (by simp only [Array.toList_append, e2]; exact .cons hab hlk) i h
        · subst hres; exact absurd rfl h
  · subst hres; exact absurd rfl h
end Go.Ab
/- The abstract run against the model: operations, and regions in the text's row. -/
namespace Go.Ab
open Go
variable {P : Program} [Idx P] {φ : Phi} {W : World}

omit [Idx P] in
theorem pick_lt (n : Nat) (hn : n ≠ 0) : ∃ (j : Nat) (w1 : World), j < n ∧ (w1 = W ∨ w1 = W.drew) ∧ (choose (Question.mapNext n)).run P W = .ok j w1 := by
  rw [run_choose_drew]
  by_cases h : n ≤ 1
  · exact ⟨0, W, by omega, .inl rfl, by simp [Question.forced, h]⟩
  · exact ⟨(Question.mapNext n).cut (W.tape W.drawn (.mapNext n)), W.drew, by simp only [Question.cut]; exact Nat.mod_lt _ (by omega), .inr rfl, by simp [Question.forced, h]⟩

omit [Idx P] in
/-- The next of a map: one of those that are told. -/
theorem goes_next {h : Look} (hs : Sim φ h W) {n : Nat} {ρ ρ' : Operand → Value} {x : Operand} {ty : TypeId} (hx : RV φ (ρ x) (ρ' x)) {l : List (Value × Ups)} (e : nextA h (ρ x) = some l) :
    ∃ v' W', (Instr.next (ρ' x) false ty).run P W = .ok v' W' ∧ ∃ p ∈ l, RV φ p.1 v' ∧ Sim φ (h.up p.2) W' ∧ Grew φ h W n φ (h.up p.2) W' n := by
  unfold nextA at e
  split at e
  · rename_i r sp hv
    rw [hv] at hx
    generalize hx' : ρ' x = z at hx
    cases hx with
    | ptr ra =>
      split at e
      · rename_i since seen st hit
        cases e
        obtain ⟨B, m', rfl, hB, hw, hm⟩ := iter_of hs ra rfl rfl hit
        cases m' with
        | some m' => exact hm.elim
        | none =>
          refine ⟨.tuple #[.bool false], W, ?_, _, List.mem_singleton.2 rfl, .tuple (.cons (.bool _) .nil), hs, .refl ..⟩
          unfold Instr.next
          simp [Sem.run_bind, run_getObj hw]
      · rename_i m since seen last hit
        simp only [Option.bind_eq_some_iff] at e
        obtain ⟨⟨es, clock⟩, hat, e⟩ := e
        simp only at e
        obtain ⟨B, m', rfl, hB, hw, hm⟩ := iter_of hs ra rfl rfl hit
        cases m' with
        | none => exact hm.elim
        | some m' =>
          obtain ⟨es', hw', hmm⟩ := hs.mapAt hm hat
          split at e
          · rename_i hcond
            simp only [Bool.and_eq_true, List.all_eq_true] at hcond
            obtain ⟨hall, hlast⟩ := hcond
            have hlast := Nat.le_of_ble_eq_true hlast
            have hall : ∀ e' ∈ es', e'.born < since := fun e' he' => by
              obtain ⟨k, hk⟩ := List.getElem?_of_mem (show e' ∈ es'.toList by simpa using he')
              rcases hmm.get' k with ⟨_, h2⟩ | ⟨y, y', h1, h2, h3⟩
              · rw [← Array.getElem?_toList, hk] at h2; cases h2
              · rw [← Array.getElem?_toList, hk] at h2; cases h2
                rw [h3.born]
                exact Nat.le_of_ble_eq_true (hall y (List.mem_of_getElem? (by simpa using h1 : es.toList[k]? = some y)))
            have hgone : (!seen.isEmpty && !es'.isEmpty && es'.all fun e => decide (e.born ≥ last)) = false := by
              cases hz : es'.isEmpty with
              | true => simp
              | false =>
                have hne : 0 < es'.size := by
                  rcases Nat.eq_zero_or_pos es'.size with h0 | h0
                  · rw [Array.isEmpty_iff_size_eq_zero.2 h0] at hz; cases hz
                  · exact h0
                have : (es'.all fun e => decide (e.born ≥ last)) = false := by
                  rw [Bool.eq_false_iff]
                  intro hq
                  rw [Array.all_eq_true_iff_forall_mem] at hq
                  have h1 := hq es'[0] (Array.getElem_mem hne)
                  have h2 := hall es'[0] (Array.getElem_mem hne)
                  simp only [decide_eq_true_eq] at h1
                  omega
                rw [this]; simp
            let left' := es'.filter fun e => !seen.contains e.born
            have hre : RE φ (es.toList.filter fun e => !seen.contains e.born) left'.toList := by
              simp only [left', Array.toList_filter]
              exact hmm.list.filter fun b => !seen.contains b
            have hold : (left'.filter fun e => decide (e.born < since)) = left' := by
              apply Array.filter_eq_self.2
              intro a ha
              simp only [left', Array.mem_filter] at ha
              simpa using hall a ha.1
            have hnew : (left'.filter fun e => decide (e.born ≥ since)) = #[] := by
              apply Array.filter_eq_empty_iff.2
              intro a ha
              simp only [left', Array.mem_filter] at ha
              have := hall a ha.1
              simp; omega
            have hrun : (Instr.next (.pointer (some ⟨B, 0, none⟩)) false ty).run P W = (do
                let c ← choose (.mapNext ((if left'.isEmpty then #[none] else #[]) ++ (left'.map some : Array (Option MapEntry))).size)
                match ((if left'.isEmpty then #[none] else #[]) ++ (left'.map some : Array (Option MapEntry)))[c]? with
                | some (some e) => do
                  setObj B (.mapIter (some m') since (seen.push e.born) clock)
                  pure (.tuple #[.bool true, e.key, e.val])
                | some none => pure (.tuple #[.bool false])
                | none => stuck "Next: no such candidate" : Sem Value).run P W := by
              unfold Instr.next
              simp only [Sem.run_bind, run_getObj hw (by intros; simp), run_getObj hw' (by intros; simp), Result.andThen_ok, hgone, Bool.false_eq_true, if_false]
              simp only [left'] at hold hnew
              simp only [hold, hnew, Array.append_empty]
              rfl
            rw [hrun]
            cases hl : es.toList.filter fun e => !seen.contains e.born with
            | nil =>
              rw [hl] at e hre
              cases e
              have h0 : left' = #[] := by
                have := hre.len
                apply Array.eq_empty_of_size_eq_zero
                simpa using this
              rw [h0]
              refine ⟨.tuple #[.bool false], W, ?_, _, List.mem_singleton.2 rfl, .tuple (.cons (.bool _) .nil), hs, .refl ..⟩
              simp [Sem.run_bind, Question.forced]
            | cons y ys =>
              rw [hl] at e hre
              cases e
              have hlen := hre.len
              have hne : left'.isEmpty = false := by
                cases hq : left'.isEmpty with
                | false => rfl
                | true =>
                  rw [Array.isEmpty_iff_size_eq_zero] at hq
                  simp [hq] at hlen
              simp only [hne, Bool.false_eq_true, if_false, Array.empty_append, Array.size_map]
              obtain ⟨j, w1, hj, hw1, hch⟩ := pick_lt (P := P) (W := W) left'.size (by simp at hlen; omega)
              have hj' : j < (y :: ys).length := by rw [← hlen]; simpa using hj
              obtain ⟨e', he', hr⟩ := hre.get j _ (List.getElem?_eq_getElem hj')
              have he'' : left'[j]? = some e' := by simpa using he'
              have hs1 : Sim φ h w1 := by rcases hw1 with rfl | rfl; exact hs; exact hs.drew
              have hw2 : w1.heap[B]? = some (.mapIter (some m') since seen last) := by rcases hw1 with rfl | rfl <;> exact hw
              have hput := hs1.putObj hB hit rfl (ob' := .mapIter (some m) since (seen.push ((y :: ys)[j]).born) clock) (O' := .mapIter (some m') since (seen.push e'.born) clock)
                (fun W' hW' => ⟨rfl, some m', by rw [hW', hr.born], hm⟩) n
              refine ⟨.tuple #[.bool true, e'.key, e'.val], _, ?_, _, List.mem_map.2 ⟨(y :: ys)[j], List.getElem_mem hj', rfl⟩, .tuple (.cons (.bool true) (.cons (by rw [hr.key]; exact RV.of_free hr.pure) (.cons hr.val .nil))), hput.1, ?_⟩
              · simp only [Sem.run_bind, hch, Result.andThen_ok, Array.getElem?_map, he'', Option.map_some, run_setObj hw2 (by intros; simp), Sem.run_pure]
              · rcases hw1 with rfl | rfl
                · exact hput.2
                · exact (Grew.refl φ h W n).drew.trans hput.2
          · cases e
      · cases e
  · cases e

/-! ### the guards -/
theorem yielded_eq {tm : T Value} {arr : Array Value} (r : RT φ tm arr) (ops : Array Oper) (j : Nat) : yielded ops arr j = yieldedA ops tm j := by
  unfold yielded yieldedA
  rw [nth_arr]
  cases hd : (ops[j]?).bind (·.dst) with
  | none => rfl
  | some d =>
    simp only [Option.bind_some]
    have := r d
    rw [Array.getD_eq_getD_getElem?] at this
    cases hx : tm.get d with
    | none =>
      rw [hx] at this
      cases hy : arr[d]? with
      | none => rfl
      | some y =>
        rw [hy] at this
        simp only [Option.getD_none, Option.getD_some] at this
        cases this; rfl
    | some x =>
      rw [hx] at this
      cases hy : arr[d]? with
      | none =>
        rw [hy] at this
        simp only [Option.getD_none, Option.getD_some] at this
        cases this; rfl
      | some y =>
        rw [hy] at this
        simp only [Option.getD_some] at this
        cases this <;> rfl
theorem wanted_eq {tm : T Value} {arr : Array Value} (r : RT φ tm arr) (o : Oper) (ops : Array Oper) : Region.wanted o (yielded ops arr) = wantedA o ops tm := by
  unfold wantedA
  rw [show yielded ops arr = yieldedA ops tm from funext (yielded_eq r ops)]

/-! ### one operation -/
theorem semAt_eq {r : Option Nat} {F : Fence} (_hF : RRnd φ r F) {o : Oper} (ho : ∀ c, o.op ≠ .defer c) (ρ : Operand → Value) : o.semAt F.round ρ = execOp ρ o := Oper.semAt_eq _ _ _ ho

section
variable {r : Fns} (R : FnsOk P r) (F : Fit P) {G N : Nat} {E : Env} {rnd : Option Nat} {Fc : Fence}
include R F

theorem oper_ok {o : Oper} {a : A} {s : St} {act : Act} (hok : operOk G N o = true) (hG : Globs φ G) (hr : RAct φ N a act) (i : Inv P φ (s.look E) s.next W) (hF : RRnd φ rnd Fc)
    (h : oper P r o.op o.dst rnd a E s ≠ .bad) {K : Act → World → Prop} {Q : Exit → Act → World → Prop} (hK : ∀ act' W', ToA P E N φ s W (oper P r o.op o.dst rnd a E s) act' W' → K act' W') :
    o.wpIn Fc 0 P act W K Q := by
  simp only [operOk, Bool.and_eq_true, List.all_eq_true] at hok
  obtain ⟨⟨hops, hdst⟩, hyield⟩ := hok
  have hdst : ∀ d, o.dst = some d → d < N := fun d hd => by rw [hd] at hdst; exact Nat.le_of_ble_eq_true hdst
  have hρ : ∀ x ∈ o.op.operands, RV φ (evalO a.tmps x) (act.eval x) := fun x hx => eval_rel hr hG (hops x (by simpa using hx))
  refine ⟨fun f _ => hF.fn f, ?_⟩
  -- what is plain
  have plain : (∀ c, o.op ≠ .defer c) → oper P r o.op o.dst rnd a E s = plainO o.dst a s (opA P (s.look E) s.next (evalO a.tmps) o.op) → o.uponIn Fc 0 P act K Q ((o.semAt Fc.round act.eval).run P W) := fun hnd heq => by
    rw [semAt_eq hF hnd]
    rw [heq] at h hK
    cases hop : opA P (s.look E) s.next (evalO a.tmps) o.op with
    | none => rw [hop] at h; exact absurd rfl h
    | some p =>
      obtain ⟨v, u, fr⟩ := p
      rw [hop] at hK
      refine Does.upon hF (goes_op F i.sim i.new hρ hyield hop).does fun v' W' ⟨φ', rv, sm, gr⟩ => hK _ _ ⟨_, _, φ', List.mem_singleton.2 rfl, (hr.mono gr.le).put hdst rv, ?_⟩
      rw [St.look_after, St.next_after]
      exact ⟨i.after sm gr, gr⟩
  -- what calls
  have calls : (∀ c, o.op ≠ .defer c) → ∀ x : Res Value, oper P r o.op o.dst rnd a E s = putRes a o.dst x → Does P (ToV P E φ s W x) ((execOp act.eval o).run P W) → o.uponIn Fc 0 P act K Q ((o.semAt Fc.round act.eval).run P W) := fun hnd x heq d => by
    rw [semAt_eq hF hnd]
    rw [heq] at h hK
    refine Does.upon hF d fun v' W' ⟨v, s', φ', hm, rv, t⟩ => hK _ _ ⟨a.put o.dst v, s', φ', ?_, (hr.mono t.le).put hdst rv, t⟩
    exact (bind_ok h).2 _ hm |>.2 _ (by simp [Res.list])
  have hargs : ∀ {c : Call}, (∀ x ∈ c.args, x ∈ o.op.operands) → RL φ (c.args.map (evalO a.tmps)).toList (c.args.map act.eval).toList := fun {c} hx => by
    simp only [Array.toList_map]
    exact RL.map _ fun x hm => hρ x (hx x (by simpa using hm))
  cases hop : o.op with
  | call c =>
    have hin : ∀ x ∈ c.args, x ∈ o.op.operands := fun x hx => by rw [hop]; simp only [Op.operands, Call.operands, Array.mem_append]; exact .inr hx
    cases hc : c.callee with
    | builtin b =>
      refine plain (by rw [hop]; intros; simp) ?_
      rw [hop]
      show callO P r c o.dst a E s = _
      unfold callO
      rw [hc]
      rfl
    | value f =>
      refine calls (by rw [hop]; intros; simp) (callV P r (evalO a.tmps f) (c.args.map (evalO a.tmps)).toList E s) (by rw [hop]; show callO P r c o.dst a E s = _; unfold callO; rw [hc]) ?_
      have hx : execOp act.eval o = (do let d ← Deferred.ofValue (act.eval f) (c.args.map act.eval); invoke d.target d.args) := by
        simp only [execOp, hop, resolve, hc]
      rw [hx]
      refine callV_ok R (hρ f (by rw [hop]; simp [Op.operands, Call.operands, hc])) (hargs hin) i fun hb => h ?_
      rw [hop]
      show callO P r c o.dst a E s = _
      unfold callO
      rw [hc]
      simp only
      rw [hb]; rfl
    | invoke x m =>
      refine calls (by rw [hop]; intros; simp) (callM P r (evalO a.tmps x) m (c.args.map (evalO a.tmps)).toList E s) (by rw [hop]; show callO P r c o.dst a E s = _; unfold callO; rw [hc]) ?_
      have hx : (execOp act.eval o).run P W = (callMethod (act.eval x) m (c.args.map act.eval)).run P W := by
        simp only [execOp, hop, resolve, hc, Sem.run_bind, Sem.run_pure, Result.andThen_ok, invoke]
        obtain ⟨e1, e2'⟩ := array_cons (y := #[act.eval x] ++ c.args.map act.eval) (b := act.eval x) (k := (c.args.map act.eval).toList) (by rw [Array.toList_append]; rfl)
        have e2 : (#[act.eval x] ++ c.args.map act.eval).extract 1 (#[act.eval x] ++ c.args.map act.eval).size = c.args.map act.eval := Array.ext' e2'
        rw [e1]
        simp only [e2]
      rw [hx]
      refine callM_ok R (hρ x (by rw [hop]; simp [Op.operands, Call.operands, hc])) (hargs hin) i fun hb => h ?_
      rw [hop]
      show callO P r c o.dst a E s = _
      unfold callO
      rw [hc]
      simp only
      rw [hb]; rfl
  | next it isString =>
    rw [semAt_eq hF (by rw [hop]; intros; simp)]
    rw [hop] at h hK
    have heq : oper P r (.next it isString) o.dst rnd a E s = if isString then .bad else nextO (evalO a.tmps it) o.dst a E s := rfl
    rw [heq] at h hK
    cases isString with
    | true => exact absurd rfl h
    | false =>
      simp only [Bool.false_eq_true, if_false] at h hK
      unfold nextO at h hK
      cases hn : nextA (s.look E) (evalO a.tmps it) with
      | none => rw [hn] at h; exact absurd rfl h
      | some l =>
        obtain ⟨v', W', hrun, p, hp, rv, sm, gr⟩ := goes_next (P := P) (n := s.next) (ty := o.type) (ρ := evalO a.tmps) (ρ' := act.eval) i.sim (hρ it (by rw [hop]; simp [Op.operands])) hn
        have hx : (execOp act.eval o).run P W = .ok (.value v') W' := by
          simp only [execOp, hop]
          exact run_v hrun
        rw [hx]
        refine hK _ _ ⟨a.put o.dst p.1, s.after p.2 false, φ, ?_, hr.put hdst rv, ?_⟩
        · rw [hn]
          split
          · rename_i v u heq2
            cases heq2
            cases hp with
            | head => simp [Res.list]
            | tail _ hp => cases hp
          · rename_i l' hno heq2
            cases heq2
            simp only [Res.list]
            exact List.mem_map.2 ⟨p, hp, rfl⟩
          · rename_i heq2; cases heq2
        · rw [St.look_after, St.next_after]
          exact ⟨i.after sm gr, gr⟩
  | defer c =>
    rw [hop] at h hK
    have heq : oper P r (.defer c) o.dst rnd a E s = deferA c o.dst rnd a s := rfl
    rw [heq] at h hK
    unfold deferA at h hK
    split at h
    · rename_i f hc
      split at h
      · rename_i fn first captured hfv
        cases hF
        have hfr := hρ f (by rw [hop]; simp [Op.operands, Call.operands, hc])
        rw [hfv] at hfr
        generalize hf' : act.eval f = z at hfr
        cases hfr with
        | func hfn hx hy =>
          rename_i fn' x' y'
          have hin : ∀ x ∈ c.args, x ∈ o.op.operands := fun x hx => by rw [hop]; simp only [Op.operands, Call.operands, Array.mem_append]; exact .inr hx
          have hrun : (o.semAt Fence.wide.round act.eval).run P W = .ok (.defer { target := .fn fn' y', args := x' ++ c.args.map act.eval }) W := by
            show (execOp act.eval o).run P W = _
            simp [execOp, hop, resolve, hc, hf', Deferred.ofValue]
          rw [hrun]
          simp only [hc, hfv] at hK
          refine hK _ _ ⟨_, s, φ, List.mem_singleton.2 rfl, ?_, .refl i⟩
          have hr2 : RAct φ N { a with defers := { target := .fn fn captured, args := first ++ c.args.map (evalO a.tmps) } :: a.defers } { act with defers := { target := .fn fn' y', args := x' ++ c.args.map act.eval } :: act.defers } :=
            ⟨hr.size, hr.tmps, .cons (.fn hfn hy (by simp only [Array.toList_append]; exact hx.append (hargs hin))) hr.defers⟩
          exact hr2.put hdst .undef'
      · exact absurd rfl h
    · exact absurd rfl h
  | _ => exact plain (by rw [hop]; intros; simp) (by rw [hop]; rfl)

/-- A region in the text's row. -/
theorem opsL_ok {ops : Array Oper} (hok : ops.toList.all (operOk G N) = true) (_hG : Globs φ G) {Q : Exit → Act → World → Prop} : ∀ (l : List Oper) (k : Nat) (φ : Phi) (a : A) (s : St) (act : Act) (W : World), ops.toList.drop k = l → Globs φ G → RAct φ N a act → Inv P φ (s.look E) s.next W → RRnd φ rnd Fc →
    opsL P r ops rnd l a E s ≠ .bad → (∀ act' W', ToA P E N φ s W (opsL P r ops rnd l a E s) act' W' → Q .normal act' W') → wpOpsIn Fc 0 P ops Q (List.range' k l.length) act W := by
  intro l
  induction l with
  | nil =>
    intro k φ a s act W _ hG hr i hF h hQ
    exact hQ _ _ ⟨a, s, φ, List.mem_singleton.2 rfl, hr, .refl i⟩
  | cons o l ih =>
    intro k φ a s act W hd hG hr i hF h hQ
    have ho : ops[k]? = some o := by
      have : (ops.toList.drop k)[0]? = some o := by rw [hd]; rfl
      rw [List.getElem?_drop] at this
      simpa using this
    have hd' : ops.toList.drop (k + 1) = l := by rw [← List.drop_drop, hd]; rfl
    have hoo : operOk G N o = true := by
      rw [List.all_eq_true] at hok
      exact hok o (by have := List.mem_of_getElem? (by simpa using ho : ops.toList[k]? = some o); exact this)
    rw [List.length_cons, List.range'_succ]
    have heq : opsL P r ops rnd (o :: l) a E s = if wantedA o ops a.tmps then (oper P r o.op o.dst rnd a E s).bind fun a s => opsL P r ops rnd l a E s else opsL P r ops rnd l (a.put o.dst undef) E s := rfl
    rw [heq] at h hQ
    show (match ops[k]? with | none => _ | some o => _)
    rw [ho]
    simp only [wanted_eq hr.tmps]
    split
    · rename_i hw
      rw [if_pos hw] at h hQ
      obtain ⟨h1, h2⟩ := bind_ok h
      refine oper_ok R F hoo hG hr i hF h1 fun act' W' ⟨a', s', φ', hm, hr', t⟩ => ?_
      obtain ⟨h3, h4⟩ := h2 _ hm
      exact ih (k + 1) φ' a' s' act' W' hd' (hG.mono t.le) hr' t.1 (hF.mono t.le) h3 fun act2 W2 ht => hQ _ _ (ht.lift t h4)
    · rename_i hw
      rw [if_neg hw] at h hQ
      simp only [operOk, Bool.and_eq_true] at hoo
      have hdst : ∀ d, o.dst = some d → d < N := fun d hdd => by have := hoo.1.2; rw [hdd] at this; exact Nat.le_of_ble_eq_true this
      exact ⟨fun f _ => hF.fn f, ih (k + 1) φ _ s _ W hd' hG (hr.put hdst .undef') i hF h hQ⟩
end
end Go.Ab

/- A part of the proof. -/
import Derived.Test.YtbkliocalcihjaaDoorx3
import Derived.Test.YtbkliocalcihjaaDoorx17
import Derived.OpenShut
import Derived.Lib.LaidTab
import Derived.Carry
import Derived.FnData
import Derived.ProofKit
set_option linter.all false
namespace Go.Lf
open Go
structure BV (W : World) (cs : List Value) (xs : List DV) : Prop where
 len : cs.length = xs.length
 one : ∀ c ∈ cs, c.oneCell' = true
 rep : ∀ (i : Nat) (d : DV), xs[i]? = some d → Cd (CQ W).im (CQ W).fm (cs.getD i Go.undef) d
theorem BV.nil {W : World} : BV W [] [] := ⟨rfl, by simp, by simp⟩
theorem BV.one1 {W : World} {v : Value} {x : DV} (h1 : v.oneCell' = true) (h : Cd (CQ W).im (CQ W).fm v x) : BV W [v] [x] :=
 ⟨rfl, by simpa using h1, fun i d hd => by
  cases i with
  | zero => simp only [List.getElem?_cons_zero, Option.some.injEq] at hd; subst hd; exact h
  | succ i => simp at hd⟩
theorem BV.append {W : World} {cs es : List Value} {xs ys : List DV} (h : BV W cs xs) (h2 : BV W es ys) : BV W (cs ++ es) (xs ++ ys) :=
 ⟨by rw [List.length_append, List.length_append, h.len, h2.len], fun c hc => by
  rcases List.mem_append.1 hc with hc | hc
  ·exact h.one c hc
  ·exact h2.one c hc, fun i d hd => by
  by_cases hi : i < xs.length
  ·rw [List.getElem?_append_left hi] at hd
   have := h.rep i d hd
   rw [List.getD_eq_getElem?_getD, List.getElem?_append_left (by rw [h.len]; exact hi), ← List.getD_eq_getElem?_getD]
   exact this
  ·rw [List.getElem?_append_right (by omega)] at hd
   have := h2.rep _ d hd
   rw [List.getD_eq_getElem?_getD, List.getElem?_append_right (by rw [h.len]; omega), ← List.getD_eq_getElem?_getD, h.len]
   exact this⟩
theorem BV.at {W : World} {cs : List Value} {xs ys : List DV} (off n : Nat) (h : BV W ((cs.drop off).take n) xs) (h2 : BV W (cs.drop (off + n)) ys) : BV W (cs.drop off) (xs ++ ys) := by
 have := h.append h2
 rwa [← List.drop_drop, List.take_append_drop] at this
theorem BV.end {W : World} {cs : List Value} {n : Nat} (h : cs.length = n) : BV W (cs.drop n) [] := by
 rw [List.drop_of_length_le (by omega)]
 exact .nil
def Rd (P : Program) (t : TypeId) (α : Type) [Enc α] (good : α → Prop) : Prop :=
 ∀ {H : Type} (enc : TypeId × Value → H) (W : World) (fuel : Nat) (cs : List Value) (x : DataW H × List MemPlace), DataW.trod enc P W 0 (fun _ => true) true fuel t cs = some x → (x.1.weights P t).all (· ≤ reachBytes) = true → ∃ y : α, BV W cs (Enc.cells y) ∧ good y
theorem Rd.int {P : Program} {t : TypeId} (ht : P.underlying t = some (.int .i64)) : Rd P t Int (fun _ => True) := by
 intro H enc W fuel cs x h hw
 obtain ⟨n, rfl, _, _⟩ := DataW.trod_int ht h
 exact ⟨n, .one1 rfl (.int n), trivial⟩
theorem Rd.bool {P : Program} {t : TypeId} (ht : P.underlying t = some .bool) : Rd P t Bool (fun _ => True) := by
 intro H enc W fuel cs x h hw
 obtain ⟨n, rfl, _⟩ := DataW.trod_bool ht h
 exact ⟨n, .one1 rfl (.bool n), trivial⟩
theorem JQ {P : Program} {e : TypeId} {H : Type} : ∀ {ds : List (DataW H)} {i : Nat} {d : DataW H}, (DataW.weightsAll P e ds).all (· ≤ reachBytes) = true → ds[i]? = some d → (d.weights P e).all (· ≤ reachBytes) = true
 | [], i, d, _, h => by simp at h
 | x :: ds, 0, d, hw, h => by
  simp only [List.getElem?_cons_zero, Option.some.injEq] at h
  subst h
  simp only [DataW.weightsAll, List.all_append, Bool.and_eq_true] at hw
  exact hw.1
 | x :: ds, i + 1, d, hw, h => by
  simp only [DataW.weightsAll, List.all_append, Bool.and_eq_true] at hw
  exact JQ hw.2 (by simpa using h)
theorem E2 {P : Program} {H : Type} : ∀ {ts : List TypeId} {ds : List (DataW H)} {i : Nat} {t : TypeId} {d : DataW H}, (DataW.weightsEach P ts ds).all (· ≤ reachBytes) = true → ts[i]? = some t → ds[i]? = some d → (d.weights P t).all (· ≤ reachBytes) = true
 | [], ds, i, t, d, _, h, _ => by simp at h
 | _ :: _, [], i, t, d, _, _, h => by simp at h
 | u :: ts, x :: ds, 0, t, d, hw, ht, h => by
  simp only [List.getElem?_cons_zero, Option.some.injEq] at h ht
  subst h ht
  simp only [DataW.weightsEach, List.all_append, Bool.and_eq_true] at hw
  exact hw.1
 | u :: ts, x :: ds, i + 1, t, d, hw, ht, h => by
  simp only [DataW.weightsEach, List.all_append, Bool.and_eq_true] at hw
  exact E2 hw.2 (by simpa using ht) (by simpa using h)
theorem Om {α : Type} {p : Nat → α → Prop} : ∀ (n : Nat), (∀ i, i < n → ∃ y, p i y) → ∃ l : List α, l.length = n ∧ ∀ i y, l[i]? = some y → p i y
 | 0, _ => ⟨[], rfl, by simp⟩
 | n + 1, h => by
  obtain ⟨l, hl, hp⟩ := Om n fun i hi => h i (by omega)
  obtain ⟨y, hy⟩ := h n (by omega)
  refine ⟨l ++ [y], by simp [hl], fun i z hz => ?_⟩
  by_cases hi : i < l.length
  ·rw [List.getElem?_append_left hi] at hz
   exact hp i z hz
  ·rw [List.getElem?_append_right (by omega)] at hz
   have h0 : i - l.length = 0 := by
    rcases Nat.eq_zero_or_pos (i - l.length) with h0 | h0
    ·exact h0
    ·rw [List.getElem?_eq_none (by simp only [List.length_singleton]; omega)] at hz; simp at hz
   rw [h0] at hz
   simp only [List.getElem?_cons_zero, Option.some.injEq] at hz
   subst hz
   rwa [show i = n by omega]
theorem vk {w : World} {b i : Nat} {u : Value} (h : w.cell? ⟨b, i, none⟩ = some u) (ho : u.oneCell' = true) : (CQ w).im b i = some u := Z1 h ho
theorem ip {f : Nat → Option Value} : ∀ {n : Nat} {cs : List Value}, (List.range n).mapM f = some cs → cs.length = n ∧ ∀ i, i < n → f i = cs[i]? := by
 intro n cs h
 have hl := mapM_some_length h
 simp only [List.length_range] at hl
 exact ⟨hl, fun i hi => mapM_some_get h i i (by simp [hi])⟩
theorem Rd.slice {P : Program} {t e : TypeId} {α : Type} [E6 α] {good : α → Prop} (ht : P.underlying t = some (.slice e)) (hc : P.cellsOf e = Enc.n α) (hn : 0 < Enc.n α) (hbt : 0 < P.bytesOf e) (he : Rd P e α good) :
  Rd P t (Sl α) (fun s => s.l.length ≤ reachBytes ∧ ∀ y ∈ s.l, good y) := by
 intro H enc W fuel cs x h hw
 rcases DataW.trod_slice ht h with ⟨rfl, _⟩ | ⟨a, len, cap, LR, rest, n, _, rfl, rfl, _, hlc, hcm, hel, hget, hrest, _⟩
 ·exact ⟨Sl.nil, .one1 rfl .nils, by simp [Sl.l], by simp [Sl.l]⟩
 ·
  simp only [DataW.weights, ht, List.all_cons, List.all_append, Bool.and_eq_true, decide_eq_true_eq] at hw
  obtain ⟨hw0, hw1, _⟩ := hw
  have hlr : len ≤ reachBytes := by
   rw [List.length_map, List.length_map, hel] at hw0
   exact Nat.le_trans (Nat.le_trans (Nat.le_add_right _ _) (Nat.le_mul_of_pos_right _ hbt)) hw0
  have hcell : ∀ i cs', W.cells? 0 (a.add (i * P.cellsOf e)) (P.cellsOf e) = some cs' → cs'.length = Enc.n α ∧ ∀ r, r < Enc.n α → W.cell? ((a.add (i * Enc.n α)).add r) = cs'[r]? := by
   intro i cs' h'
   simp only [World.cells?, Nat.zero_le, if_true, hc] at h'
   exact ip h'
  have hspot : 0 < cap → a.spot = none := by
   intro h0
   have hat : ∀ y, (W.cells? 0 (a.add (0 * P.cellsOf e)) (P.cellsOf e)).bind (DataW.trod enc P W 0 (fun _ => true) true n e) = some y → a.spot = none := by
    intro y hy
    obtain ⟨cs', h1, _⟩ := Option.bind_eq_some_iff.1 hy
    obtain ⟨hl, h2⟩ := hcell 0 cs' h1
    have := h2 0 hn
    rw [List.getElem?_eq_getElem (by omega)] at this
    simp only [Nat.zero_mul, Addr.add, if_true, World.cell?] at this
    cases hs : a.spot with
    | none => rfl
    | some sp =>
     split at this
     ·simp [hs] at this
     ·simp at this
   by_cases hl0 : 0 < len
   ·have := hget 0 hl0
    rw [List.getElem?_eq_getElem (by omega)] at this
    exact hat _ this
   ·obtain ⟨hrl, hr⟩ := hrest rfl
    have := hr 0 (by omega)
    rw [List.getElem?_eq_getElem (by omega), show len + 0 = 0 by omega] at this
    exact hat _ this
  have hex : ∀ i, i < len → ∃ y : α, good y ∧ ∃ cs', W.cells? 0 (a.add (i * P.cellsOf e)) (P.cellsOf e) = some cs' ∧ BV W cs' (Enc.cells y) := by
   intro i hi
   have := hget i hi
   rw [List.getElem?_eq_getElem (by omega)] at this
   obtain ⟨cs', h1, h2⟩ := Option.bind_eq_some_iff.1 this
   obtain ⟨y, h3, h4⟩ := he enc W n cs' _ h2 (JQ (i := i) hw1 (by rw [List.getElem?_map, List.getElem?_eq_getElem (by omega)]; rfl))
   exact ⟨y, h4, cs', h1, h3⟩
  obtain ⟨l, hll, hl⟩ := Om len hex
  obtain ⟨b, o, sp⟩ := a
  refine ⟨Sl.cold l, .one1 rfl ?_, ⟨by simp only [Sl.l]; omega, fun y hy => ?_⟩⟩
  ·show Cd _ _ _ (.slice (Enc.n α) (l.map Enc.enc))
   by_cases h0 : 0 < cap
   ·have hs0 : sp = none := hspot h0
    subst hs0
    have key : ∀ i y, l[i]? = some y → ∀ r d, (Enc.cells y)[r]? = some d → ∃ u, (CQ W).im b (o + (i * Enc.n α + r)) = some u ∧ Cd (CQ W).im (CQ W).fm u d := by
     intro i y hy r d hd
     obtain ⟨_, cs', h1, h2⟩ := hl i y hy
     obtain ⟨h3, h4⟩ := hcell i cs' h1
     have hr : r < Enc.n α := by rw [← E6.len y]; exact (List.getElem?_eq_some_iff.1 hd).1
     have h5 := h4 r hr
     have hget' : cs'[r]? = some (cs'.getD r Go.undef) := by rw [List.getD_eq_getElem?_getD, List.getElem?_eq_getElem (by omega)]; rfl
     rw [hget', HV, HV, Nat.add_assoc] at h5
     exact ⟨_, Z1 h5 (h2.one _ (List.mem_of_getElem? hget')), h2.rep r d hd⟩
    have hz : ∀ x, x ∈ l.map Enc.enc → x.cells.length = Enc.n α := by
     intro x hx
     obtain ⟨y, _, rfl⟩ := List.mem_map.1 hx
     rw [Enc.law, E6.len]
    have hfl : ∀ q d, ((l.map Enc.enc).flatMap DV.cells)[q]? = some d → ∃ u, (CQ W).im b (o + q) = some u ∧ Cd (CQ W).im (CQ W).fm u d := by
     intro q d hq
     obtain ⟨i, r, e', rfl, h1, h2, h3⟩ := NA hz hq
     rw [List.getElem?_map, Option.map_eq_some_iff] at h2
     obtain ⟨y, hy, rfl⟩ := h2
     rw [Enc.law] at h3
     exact key i y hy r d h3
    have := Cd.slice (im := (CQ W).im) (fm := (CQ W).fm) b o cap (Enc.n α) (l.map Enc.enc) (fun q => ((CQ W).im b (o + q)).getD Go.undef) (by rw [List.length_map]; omega) hz (fun q hq => by
     have hlt : q < ((l.map Enc.enc).flatMap DV.cells).length := by rw [KZ hz]; exact hq
     obtain ⟨u, hu, _⟩ := hfl q _ (List.getElem?_eq_getElem hlt)
     rw [hu]; rfl) (fun q d hq => by
     obtain ⟨u, hu, hr⟩ := hfl q d hq
     rw [hu]; exact hr)
    rwa [List.length_map, hll] at this
   ·have hc0 : cap = 0 := by omega
    have hl0 : len = 0 := by omega
    subst hc0 hl0
    rw [List.length_eq_zero_iff.1 hll]
    cases sp with
    | none => exact Yu _ _ _ _
    | some sp => exact .gone _ _ _ _
  ·obtain ⟨i, hi⟩ := List.mem_iff_getElem?.1 hy
   exact (hl i y hi).1
theorem Rd.array {P : Program} {t e : TypeId} {n : Nat} {α : Type} [E6 α] {good : α → Prop} (ht : P.underlying t = some (.array n e)) (hc : P.cellsOf e = Enc.n α) (hct : P.cellsOf t = n * Enc.n α) (he : Rd P e α good) :
  Rd P t (Ar n α) (fun s => ∀ y ∈ s.l, good y) := by
 intro H enc W fuel cs x h hw
 obtain ⟨xs, m, _, hx, hlen, hxl, hget⟩ := DataW.trod_array ht h
 have hex : ∀ i, i < n → ∃ y : α, good y ∧ BV W ((cs.drop (i * Enc.n α)).take (Enc.n α)) (Enc.cells y) := by
  intro i hi
  have := hget i hi
  rw [List.getElem?_eq_getElem (by omega), hc] at this
  obtain ⟨y, h3, h4⟩ := he enc W m _ _ this (JQ (i := i) (by rw [hx] at hw; simpa only [DataW.weights, ht] using hw) (by rw [List.getElem?_map, List.getElem?_eq_getElem (by omega)]; rfl))
  exact ⟨y, h4, h3⟩
 obtain ⟨l, hll, hl⟩ := Om n hex
 refine ⟨⟨l, hll⟩, ?_, fun y hy => ?_⟩
 ·show BV W cs (l.flatMap Enc.cells)
  have main : ∀ (post pre : List α), l = pre ++ post → BV W (cs.drop (pre.length * Enc.n α)) (post.flatMap Enc.cells) := by
   intro post
   induction post with
   | nil =>
    intro pre hp
    have : pre.length = n := by rw [← hll, hp]; simp
    rw [this]
    exact .end (by rw [hlen, hct])
   | cons y post ih =>
    intro pre hp
    have := ih (pre ++ [y]) (by rw [hp]; simp)
    rw [List.length_append, List.length_singleton, Nat.add_mul, Nat.one_mul] at this
    rw [List.flatMap_cons]
    exact .at _ _ (hl pre.length y (by rw [hp]; simp)).2 this
  simpa using main l [] rfl
 ·obtain ⟨i, hi⟩ := List.mem_iff_getElem?.1 hy
  exact (hl i y hi).1
theorem Rd.field {P : Program} {α : Type} [Enc α] {good : α → Prop} {H : Type} {enc : TypeId × Value → H} {W : World} {fuel : Nat} {cs : List Value} {f : Field} {xs : List (DataW H × List MemPlace)} {i n : Nat}
  (hr : Rd P f.type α good) (hn : P.cellsOf f.type = n) (hi : i < xs.length) {ts : List TypeId} (hw : (DataW.weightsEach P ts (xs.map (·.1))).all (· ≤ reachBytes) = true) (hti : ts[i]? = some f.type)
  (h : DataW.trod enc P W 0 (fun _ => true) true fuel f.type ((cs.drop f.offset).take (P.cellsOf f.type)) = xs[i]?) : ∃ y : α, BV W ((cs.drop f.offset).take n) (Enc.cells y) ∧ good y := by
 rw [List.getElem?_eq_getElem hi] at h
 obtain ⟨y, h1, h2⟩ := hr enc W fuel _ _ h (E2 hw hti (by rw [List.getElem?_map, List.getElem?_eq_getElem hi]; rfl))
 rw [hn] at h1
 exact ⟨y, h1, h2⟩
theorem Yn {P : Program} {t : TypeId} {f0 f1 : Field} {α α0 α1 : Type} [Enc α] [E6 α0] [E6 α1] {g0 : α0 → Prop} {g1 : α1 → Prop} {good : α → Prop} {n0 n1 : Nat} (mk : α0 → α1 → α)
  (ht : P.underlying t = some (.struct #[f0, f1]))
  (h0 : Rd P f0.type α0 g0) (h1 : Rd P f1.type α1 g1)
  (c0 : P.cellsOf f0.type = n0) (c1 : P.cellsOf f1.type = n1)
  (o0 : f0.offset = 0) (o1 : f1.offset = n0)
  (hc : P.cellsOf t = n0 + n1) (hm : ∀ a0 a1, Enc.cells (mk a0 a1) = Enc.cells a0 ++ (Enc.cells a1 ++ ([]))) (hg : ∀ a0 a1, g0 a0 → g1 a1 → good (mk a0 a1)) : Rd P t α good := by
 intro H enc W fuel cs x h hw
 obtain ⟨xs, n, _, rfl, hl, hxl, hget⟩ := DataW.trod_struct ht h
 simp only [DataW.weights, ht] at hw
 simp only [List.size_toArray, List.length_cons, List.length_nil] at hxl
 obtain ⟨a0, r0, b0⟩ := Rd.field h0 c0 (i := 0) (by omega) hw rfl (hget 0 f0 rfl)
 obtain ⟨a1, r1, b1⟩ := Rd.field h1 c1 (i := 1) (by omega) hw rfl (hget 1 f1 rfl)
 rw [o0] at r0
 rw [o1] at r1
 refine ⟨mk a0 a1, ?_, hg a0 a1 b0 b1⟩
 rw [hm]
 have := BV.at 0 n0 r0 (ys := _) (by rw [Nat.zero_add]; exact (BV.at (n0) n1 r1 (.end (by rw [hl, hc]))))
 simpa using this
theorem mJ {P : Program} {t : TypeId} {f0 f1 f2 : Field} {α α0 α1 α2 : Type} [Enc α] [E6 α0] [E6 α1] [E6 α2] {g0 : α0 → Prop} {g1 : α1 → Prop} {g2 : α2 → Prop} {good : α → Prop} {n0 n1 n2 : Nat} (mk : α0 → α1 → α2 → α)
  (ht : P.underlying t = some (.struct #[f0, f1, f2]))
  (h0 : Rd P f0.type α0 g0) (h1 : Rd P f1.type α1 g1) (h2 : Rd P f2.type α2 g2)
  (c0 : P.cellsOf f0.type = n0) (c1 : P.cellsOf f1.type = n1) (c2 : P.cellsOf f2.type = n2)
  (o0 : f0.offset = 0) (o1 : f1.offset = n0) (o2 : f2.offset = n0 + n1)
  (hc : P.cellsOf t = n0 + n1 + n2) (hm : ∀ a0 a1 a2, Enc.cells (mk a0 a1 a2) = Enc.cells a0 ++ (Enc.cells a1 ++ (Enc.cells a2 ++ ([])))) (hg : ∀ a0 a1 a2, g0 a0 → g1 a1 → g2 a2 → good (mk a0 a1 a2)) : Rd P t α good := by
 intro H enc W fuel cs x h hw
 obtain ⟨xs, n, _, rfl, hl, hxl, hget⟩ := DataW.trod_struct ht h
 simp only [DataW.weights, ht] at hw
 simp only [List.size_toArray, List.length_cons, List.length_nil] at hxl
 obtain ⟨a0, r0, b0⟩ := Rd.field h0 c0 (i := 0) (by omega) hw rfl (hget 0 f0 rfl)
 obtain ⟨a1, r1, b1⟩ := Rd.field h1 c1 (i := 1) (by omega) hw rfl (hget 1 f1 rfl)
 obtain ⟨a2, r2, b2⟩ := Rd.field h2 c2 (i := 2) (by omega) hw rfl (hget 2 f2 rfl)
 rw [o0] at r0
 rw [o1] at r1
 rw [o2] at r2
 refine ⟨mk a0 a1 a2, ?_, hg a0 a1 a2 b0 b1 b2⟩
 rw [hm]
 have := BV.at 0 n0 r0 (ys := _) (by rw [Nat.zero_add]; exact (BV.at (n0) n1 r1 (BV.at (n0 + n1) n2 r2 (.end (by rw [hl, hc])))))
 simpa using this
theorem mL {P : Program} {t : TypeId} {f0 f1 f2 f3 : Field} {α α0 α1 α2 α3 : Type} [Enc α] [E6 α0] [E6 α1] [E6 α2] [E6 α3] {g0 : α0 → Prop} {g1 : α1 → Prop} {g2 : α2 → Prop} {g3 : α3 → Prop} {good : α → Prop} {n0 n1 n2 n3 : Nat} (mk : α0 → α1 → α2 → α3 → α)
  (ht : P.underlying t = some (.struct #[f0, f1, f2, f3]))
  (h0 : Rd P f0.type α0 g0) (h1 : Rd P f1.type α1 g1) (h2 : Rd P f2.type α2 g2) (h3 : Rd P f3.type α3 g3)
  (c0 : P.cellsOf f0.type = n0) (c1 : P.cellsOf f1.type = n1) (c2 : P.cellsOf f2.type = n2) (c3 : P.cellsOf f3.type = n3)
  (o0 : f0.offset = 0) (o1 : f1.offset = n0) (o2 : f2.offset = n0 + n1) (o3 : f3.offset = n0 + n1 + n2)
  (hc : P.cellsOf t = n0 + n1 + n2 + n3) (hm : ∀ a0 a1 a2 a3, Enc.cells (mk a0 a1 a2 a3) = Enc.cells a0 ++ (Enc.cells a1 ++ (Enc.cells a2 ++ (Enc.cells a3 ++ ([]))))) (hg : ∀ a0 a1 a2 a3, g0 a0 → g1 a1 → g2 a2 → g3 a3 → good (mk a0 a1 a2 a3)) : Rd P t α good := by
 intro H enc W fuel cs x h hw
 obtain ⟨xs, n, _, rfl, hl, hxl, hget⟩ := DataW.trod_struct ht h
 simp only [DataW.weights, ht] at hw
 simp only [List.size_toArray, List.length_cons, List.length_nil] at hxl
 obtain ⟨a0, r0, b0⟩ := Rd.field h0 c0 (i := 0) (by omega) hw rfl (hget 0 f0 rfl)
 obtain ⟨a1, r1, b1⟩ := Rd.field h1 c1 (i := 1) (by omega) hw rfl (hget 1 f1 rfl)
 obtain ⟨a2, r2, b2⟩ := Rd.field h2 c2 (i := 2) (by omega) hw rfl (hget 2 f2 rfl)
 obtain ⟨a3, r3, b3⟩ := Rd.field h3 c3 (i := 3) (by omega) hw rfl (hget 3 f3 rfl)
 rw [o0] at r0
 rw [o1] at r1
 rw [o2] at r2
 rw [o3] at r3
 refine ⟨mk a0 a1 a2 a3, ?_, hg a0 a1 a2 a3 b0 b1 b2 b3⟩
 rw [hm]
 have := BV.at 0 n0 r0 (ys := _) (by rw [Nat.zero_add]; exact (BV.at (n0) n1 r1 (BV.at (n0 + n1) n2 r2 (BV.at (n0 + n1 + n2) n3 r3 (.end (by rw [hl, hc]))))))
 simpa using this
theorem uu {P : Program} {t : TypeId} {f0 f1 f2 f3 f4 : Field} {α α0 α1 α2 α3 α4 : Type} [Enc α] [E6 α0] [E6 α1] [E6 α2] [E6 α3] [E6 α4] {g0 : α0 → Prop} {g1 : α1 → Prop} {g2 : α2 → Prop} {g3 : α3 → Prop} {g4 : α4 → Prop} {good : α → Prop} {n0 n1 n2 n3 n4 : Nat} (mk : α0 → α1 → α2 → α3 → α4 → α)
  (ht : P.underlying t = some (.struct #[f0, f1, f2, f3, f4]))
  (h0 : Rd P f0.type α0 g0) (h1 : Rd P f1.type α1 g1) (h2 : Rd P f2.type α2 g2) (h3 : Rd P f3.type α3 g3) (h4 : Rd P f4.type α4 g4)
  (c0 : P.cellsOf f0.type = n0) (c1 : P.cellsOf f1.type = n1) (c2 : P.cellsOf f2.type = n2) (c3 : P.cellsOf f3.type = n3) (c4 : P.cellsOf f4.type = n4)
  (o0 : f0.offset = 0) (o1 : f1.offset = n0) (o2 : f2.offset = n0 + n1) (o3 : f3.offset = n0 + n1 + n2) (o4 : f4.offset = n0 + n1 + n2 + n3)
  (hc : P.cellsOf t = n0 + n1 + n2 + n3 + n4) (hm : ∀ a0 a1 a2 a3 a4, Enc.cells (mk a0 a1 a2 a3 a4) = Enc.cells a0 ++ (Enc.cells a1 ++ (Enc.cells a2 ++ (Enc.cells a3 ++ (Enc.cells a4 ++ ([])))))) (hg : ∀ a0 a1 a2 a3 a4, g0 a0 → g1 a1 → g2 a2 → g3 a3 → g4 a4 → good (mk a0 a1 a2 a3 a4)) : Rd P t α good := by
 intro H enc W fuel cs x h hw
 obtain ⟨xs, n, _, rfl, hl, hxl, hget⟩ := DataW.trod_struct ht h
 simp only [DataW.weights, ht] at hw
 simp only [List.size_toArray, List.length_cons, List.length_nil] at hxl
 obtain ⟨a0, r0, b0⟩ := Rd.field h0 c0 (i := 0) (by omega) hw rfl (hget 0 f0 rfl)
 obtain ⟨a1, r1, b1⟩ := Rd.field h1 c1 (i := 1) (by omega) hw rfl (hget 1 f1 rfl)
 obtain ⟨a2, r2, b2⟩ := Rd.field h2 c2 (i := 2) (by omega) hw rfl (hget 2 f2 rfl)
 obtain ⟨a3, r3, b3⟩ := Rd.field h3 c3 (i := 3) (by omega) hw rfl (hget 3 f3 rfl)
 obtain ⟨a4, r4, b4⟩ := Rd.field h4 c4 (i := 4) (by omega) hw rfl (hget 4 f4 rfl)
 rw [o0] at r0
 rw [o1] at r1
 rw [o2] at r2
 rw [o3] at r3
 rw [o4] at r4
 refine ⟨mk a0 a1 a2 a3 a4, ?_, hg a0 a1 a2 a3 a4 b0 b1 b2 b3 b4⟩
 rw [hm]
 have := BV.at 0 n0 r0 (ys := _) (by rw [Nat.zero_add]; exact (BV.at (n0) n1 r1 (BV.at (n0 + n1) n2 r2 (BV.at (n0 + n1 + n2) n3 r3 (BV.at (n0 + n1 + n2 + n3) n4 r4 (.end (by rw [hl, hc])))))))
 simpa using this
theorem l5 {P : Program} {t : TypeId} {f0 f1 f2 f3 f4 f5 : Field} {α α0 α1 α2 α3 α4 α5 : Type} [Enc α] [E6 α0] [E6 α1] [E6 α2] [E6 α3] [E6 α4] [E6 α5] {g0 : α0 → Prop} {g1 : α1 → Prop} {g2 : α2 → Prop} {g3 : α3 → Prop} {g4 : α4 → Prop} {g5 : α5 → Prop} {good : α → Prop} {n0 n1 n2 n3 n4 n5 : Nat} (mk : α0 → α1 → α2 → α3 → α4 → α5 → α)
  (ht : P.underlying t = some (.struct #[f0, f1, f2, f3, f4, f5]))
  (h0 : Rd P f0.type α0 g0) (h1 : Rd P f1.type α1 g1) (h2 : Rd P f2.type α2 g2) (h3 : Rd P f3.type α3 g3) (h4 : Rd P f4.type α4 g4) (h5 : Rd P f5.type α5 g5)
  (c0 : P.cellsOf f0.type = n0) (c1 : P.cellsOf f1.type = n1) (c2 : P.cellsOf f2.type = n2) (c3 : P.cellsOf f3.type = n3) (c4 : P.cellsOf f4.type = n4) (c5 : P.cellsOf f5.type = n5)
  (o0 : f0.offset = 0) (o1 : f1.offset = n0) (o2 : f2.offset = n0 + n1) (o3 : f3.offset = n0 + n1 + n2) (o4 : f4.offset = n0 + n1 + n2 + n3) (o5 : f5.offset = n0 + n1 + n2 + n3 + n4)
  (hc : P.cellsOf t = n0 + n1 + n2 + n3 + n4 + n5) (hm : ∀ a0 a1 a2 a3 a4 a5, Enc.cells (mk a0 a1 a2 a3 a4 a5) = Enc.cells a0 ++ (Enc.cells a1 ++ (Enc.cells a2 ++ (Enc.cells a3 ++ (Enc.cells a4 ++ (Enc.cells a5 ++ ([]))))))) (hg : ∀ a0 a1 a2 a3 a4 a5, g0 a0 → g1 a1 → g2 a2 → g3 a3 → g4 a4 → g5 a5 → good (mk a0 a1 a2 a3 a4 a5)) : Rd P t α good := by
 intro H enc W fuel cs x h hw
 obtain ⟨xs, n, _, rfl, hl, hxl, hget⟩ := DataW.trod_struct ht h
 simp only [DataW.weights, ht] at hw
 simp only [List.size_toArray, List.length_cons, List.length_nil] at hxl
 obtain ⟨a0, r0, b0⟩ := Rd.field h0 c0 (i := 0) (by omega) hw rfl (hget 0 f0 rfl)
 obtain ⟨a1, r1, b1⟩ := Rd.field h1 c1 (i := 1) (by omega) hw rfl (hget 1 f1 rfl)
 obtain ⟨a2, r2, b2⟩ := Rd.field h2 c2 (i := 2) (by omega) hw rfl (hget 2 f2 rfl)
 obtain ⟨a3, r3, b3⟩ := Rd.field h3 c3 (i := 3) (by omega) hw rfl (hget 3 f3 rfl)
 obtain ⟨a4, r4, b4⟩ := Rd.field h4 c4 (i := 4) (by omega) hw rfl (hget 4 f4 rfl)
 obtain ⟨a5, r5, b5⟩ := Rd.field h5 c5 (i := 5) (by omega) hw rfl (hget 5 f5 rfl)
 rw [o0] at r0
 rw [o1] at r1
 rw [o2] at r2
 rw [o3] at r3
 rw [o4] at r4
 rw [o5] at r5
 refine ⟨mk a0 a1 a2 a3 a4 a5, ?_, hg a0 a1 a2 a3 a4 a5 b0 b1 b2 b3 b4 b5⟩
 rw [hm]
 have := BV.at 0 n0 r0 (ys := _) (by rw [Nat.zero_add]; exact (BV.at (n0) n1 r1 (BV.at (n0 + n1) n2 r2 (BV.at (n0 + n1 + n2) n3 r3 (BV.at (n0 + n1 + n2 + n3) n4 r4 (BV.at (n0 + n1 + n2 + n3 + n4) n5 r5 (.end (by rw [hl, hc]))))))))
 simpa using this
theorem BV.value {α : Type} [Enc α] {W : World} {v : Value} {y : α} (hv : v.cells.toList = [v]) (hc : Enc.cells y = [Enc.enc y]) (h : BV W v.cells.toList (Enc.cells y)) : Cd (CQ W).im (CQ W).fm v (Enc.enc y) := by
 rw [hv, hc] at h
 exact h.rep 0 _ rfl
theorem ZE {W : World} {vs : Array Value} {xs : List DV} (h : BV W vs.toList xs) : Cd (CQ W).im (CQ W).fm (.agg vs) (.agg xs) :=
 .agg vs xs (by have := h.len; simpa using this) fun i c hc => by
  have := h.rep i c hc
  rwa [List.getD_eq_getElem?_getD, Array.getElem?_toList, ← Array.getD_eq_getD_getElem?] at this
theorem ZH {P : Program} {W : World} {base : Nat} {t : TypeId} {v : Value} {d : TypeDesc} (ht : P.underlying t = some d) (hd : bi d = false) (h : Value.okWide P W .any base t v) : v.cells.toList = [v] := by
 unfold Value.okWide at h
 rw [ht] at h
 cases d <;> first | (simp [bi] at hd; done) | (unfold Cell.okWide at h; rw [ht] at h; cases v <;> first | rfl | (simp [Cell.ok, ht] at h; done))
theorem Yv {P : Program} {W : World} {base : Nat} {t : TypeId} {v : Value} {d : TypeDesc} (ht : P.underlying t = some d) (hd : bi d = true) (h : Value.okWide P W .any base t v) : ∃ cs, v = .agg cs := by
 unfold Value.okWide at h
 rw [ht] at h
 cases d <;> first | (simp [bi] at hd; done) | (obtain ⟨cs, rfl, _⟩ := h; exact ⟨cs, rfl⟩)
theorem xC {P : Program} {t : TypeId} {α : Type} [LX α] {good : α → Prop} (hr : Rd P t α good) {d : TypeDesc} (ht : P.underlying t = some d) (hd : bi d = true) {W : World} {base : Nat} {v : Value} (hv : Value.okWide P W .any base t v)
  {H : Type} {enc : TypeId × Value → H} {x : DataW H} {ps : List MemPlace} (h : DataW.Trod enc P W 0 (fun _ => true) true t v x ps) (hw : (x.weights P t).all (· ≤ reachBytes) = true) : ∃ y : α, Cd (CQ W).im (CQ W).fm v (Enc.enc y) ∧ good y := by
 obtain ⟨cs, rfl⟩ := Yv ht hd hv
 obtain ⟨fuel, h⟩ := h
 obtain ⟨y, h1, h2⟩ := hr enc W fuel _ _ h hw
 exact ⟨y, by rw [LX.agg]; exact ZE h1, h2⟩
theorem uB {P : Program} {t : TypeId} {α : Type} [Enc α] {good : Sl α → Prop} (hr : Rd P t (Sl α) good) {e : TypeId} (ht : P.underlying t = some (.slice e)) {W : World} {base : Nat} {v : Value} (hv : Value.okWide P W .any base t v)
  {H : Type} {enc : TypeId × Value → H} {x : DataW H} {ps : List MemPlace} (h : DataW.Trod enc P W 0 (fun _ => true) true t v x ps) (hw : (x.weights P t).all (· ≤ reachBytes) = true) : ∃ y : Sl α, Cd (CQ W).im (CQ W).fm v (Enc.enc y) ∧ good y := by
 obtain ⟨fuel, h⟩ := h
 obtain ⟨y, h1, h2⟩ := hr enc W fuel _ _ h hw
 exact ⟨y, BV.value (ZH ht rfl hv) rfl h1, h2⟩
theorem yP {P : Program} {t : TypeId} {good : Int → Prop} (hr : Rd P t Int good) (ht : P.underlying t = some (.int .i64)) {W : World} {base : Nat} {v : Value} (hv : Value.okWide P W .any base t v)
  {H : Type} {enc : TypeId × Value → H} {x : DataW H} {ps : List MemPlace} (h : DataW.Trod enc P W 0 (fun _ => true) true t v x ps) (hw : (x.weights P t).all (· ≤ reachBytes) = true) : ∃ y : Int, Cd (CQ W).im (CQ W).fm v (Enc.enc y) ∧ good y := by
 obtain ⟨fuel, h⟩ := h
 obtain ⟨y, h1, h2⟩ := hr enc W fuel _ _ h hw
 exact ⟨y, BV.value (ZH ht rfl hv) rfl h1, h2⟩
theorem ul {P : Program} {t : TypeId} {n : Nat} {α : Type} [E6 α] {good : Ar n α → Prop} (hr : Rd P t (Ar n α) good) {e : TypeId} (ht : P.underlying t = some (.array n e)) {W : World} {base : Nat} {v : Value} (hv : Value.okWide P W .any base t v)
  {H : Type} {enc : TypeId × Value → H} {x : DataW H} {ps : List MemPlace} (h : DataW.Trod enc P W 0 (fun _ => true) true t v x ps) (hw : (x.weights P t).all (· ≤ reachBytes) = true) : ∃ y : Ar n α, Cd (CQ W).im (CQ W).fm v (Enc.enc y) ∧ good y := by
 obtain ⟨cs, rfl⟩ := Yv ht rfl hv
 obtain ⟨fuel, h⟩ := h
 obtain ⟨y, h1, h2⟩ := hr enc W fuel _ _ h hw
 exact ⟨y, ZE h1, h2⟩
theorem oP {w w' : World} (h : ∀ b, Qg w' b = Qg w b) (a : Addr) : w'.frozen? a = w.frozen? a := by
 have key : ∀ w : World, w.frozen? a = (decide ((Qg w a.block).1 ≤ a.off) && decide (a.off < (Qg w a.block).2)) := by
  intro w
  unfold World.frozen? Qg
  cases w.heap[a.block]? with
  | none => simp [iE]
  | some o => cases o with
   | cells c e fr => obtain ⟨lo, hi⟩ := fr; rfl
   | _ => simp [iE]
 rw [key, key, h]
theorem JK {P : Program} {W : World} {n : Nat} {name : String} {cs : Array Value} {xs : List DV} (hg : P.globalNamed name = some n) (hv : W.var? P name = some cs) (h : BV W cs.toList xs) :
  Cd (CQ W).im (CQ W).fm (.pointer (some ⟨n, 0, none⟩)) (.fptr xs 0) := by
 have hl : cs.size = xs.length := by simpa using h.len
 have hc : ∀ i, i < xs.length → cs[i]? = some (cs.toList.getD i Go.undef) := fun i hi => by
  rw [List.getD_eq_getElem?_getD, Array.getElem?_toList, Array.getElem?_eq_getElem (by omega)]; rfl
 exact Cd.fptr n 0 0 xs (fun i => cs.toList.getD i Go.undef) (fun i hi => by
  rw [Nat.zero_add]
  refine Z1 ((World.var?_cell hg hv i).trans (hc i hi)) (h.one _ ?_)
  have := hc i hi
  rw [← Array.getElem?_toList] at this
  exact List.mem_of_getElem? this) h.rep
theorem my {im : Nat → Nat → Option Value} {fm : Nat → Option (Array MapEntry)} (n : Nat) : Cd im fm (.pointer (some ⟨n, 0, none⟩)) (.fptr [] 0) :=
 Cd.fptr n 0 0 [] (fun _ => Go.undef) (fun i hi => by simp at hi) (fun i c hc => by simp at hc)
theorem BV.ints {W : World} : ∀ zs : List Int, BV W (zs.map fun z => Value.int .i64 z) (zs.map .int)
 | [] => .nil
 | z :: zs => (BV.one1 (x := .int z) rfl (.int z)).append (BV.ints zs)
theorem dh {P : Program} (hl : laidOutB P = true) {H : Type} {enc : TypeId × Value → H} {W W' : World} {sp : Nat → Bool} : ∀ {ts : List TypeId} {vs : List Value} {ds : List (DataW H)} {ps : List MemPlace}, (∀ t ∈ ts, P.readableRec t = true ∧ t < P.types.size) →
  DataW.TrodAll enc P W 0 (fun _ => true) true ts vs ds ps → (∀ p ∈ ps, W.sameAt W' p) → (∀ p ∈ ps, sp p.block = true) → DataW.TrodAll enc P W' 0 sp true ts vs ds ps
 | [], [], [], _, _, h, _, _ => h
 | t :: ts, _ :: _, _ :: _, _, ht, ⟨p, q, h1, h2, e⟩, hw, hs => ⟨p, q, WideElems.Trod_stays hl (ht t (by simp)).1 (ht t (by simp)).2 h1 (fun x hx => hw x (by rw [e]; exact List.mem_append_left _ hx)) (fun x hx => hs x (by rw [e]; exact List.mem_append_left _ hx)),
   dh hl (fun t' ht' => ht t' (List.mem_cons_of_mem _ ht')) h2 (fun x hx => hw x (by rw [e]; exact List.mem_append_right _ hx)) (fun x hx => hs x (by rw [e]; exact List.mem_append_right _ hx)), e⟩
theorem pZ {T : Tables} (hmix : T.P.follows .mixedOrders = true) {f : Nat} {ds : List DV} (hfin : zj T.LP f ds (.bool true)) {w : World} {args : Array Value}
  (hg : ∀ n, Cd (CQ w).im (CQ w).fm (.pointer (some ⟨n, 0, none⟩)) (.fptr (T.globs n) 0)) (hsz : args.size = ds.length)
  (ha : ∀ (i : Nat) (d : DV), ds[i]? = some d → Cd (CQ w).im (CQ w).fm (args.getD i Go.undef) d) :
  Calls T.P f args w fun e w' => e = .returned (.bool true) ∧ (∀ b, b < w.heap.size → w'.heap[b]? = w.heap[b]?) ∧ w.heap.size ≤ w'.heap.size ∧ w'.os = w.os ∧ w'.tape = w.tape ∧ w'.output = w.output ∧ ∀ b, Qg w' b = Qg w b := by
 obtain ⟨c, n, he⟩ := hfin [] 0
 refine (l4 hmix he rfl hg hsz ha).mono fun e w' ⟨v', im, fm, h1, h2, h3⟩ => ?_
 cases h2
 exact ⟨h1, h3⟩
theorem rQ {P : Program} (hl : laidOutB P = true) {f : Func} {s : ChangeSpec} {tb : TypeId} (hr : f.resultTypes = #[tb]) (hb : P.underlying tb = some .bool) (hts : ∀ t ∈ f.params.toList, P.readableRec t = true ∧ t < P.types.size)
  {H : Type} {enc : TypeId × Value → H} {W W' : World} {args : Array Value} {ds gs : List (DataW H)} {before : List MemPlace} (hsv : s.vars = []) (hW : DataW.Whole enc P f.params.toList s.vars false W args.toList ds gs before)
  (hres : (s.fn H ds).results = [.lit (.bool true)]) (hargs : (s.fn H ds).args = ds) (hvars : (s.fn H ds).vars = [])
  (hheap : ∀ b, b < W.heap.size → W'.heap[b]? = W.heap[b]?) (hsize : W.heap.size ≤ W'.heap.size) (hos : W'.os = W.os) (htape : W'.tape = W.tape) (hout : W'.output = W.output) (hfz : ∀ b, Qg W' b = Qg W b) :
  s.post enc P f false true false false W args (.bool true) W' := by
 have hW' := hW
 obtain ⟨p, q, hA, hV, rfl, _, _⟩ := hW
 rw [hsv] at hV
 obtain ⟨rfl, rfl⟩ : gs = [] ∧ q = [] := by
  cases gs with
  | nil => exact ⟨rfl, hV⟩
  | cons g gs => exact hV.elim
 have hbel : RowKit.Below W.heap.size W W' := ⟨hos, htape, hout, hsize, hheap⟩
 have hlt : ∀ x ∈ p, x.block < W.heap.size := fun x hx => hW'.lt x (by simpa using hx)
 refine ChangeShapes.post_of_same (pa := p) (pv := []) hW' ?_ ?_ ?_ rfl (hbel.frame _) (oP hfz) ?_
 ·intro b sp hd
  rw [List.append_nil, hres, hr]
  exact ⟨[], [], ⟨1, by simp [DataW.trod, hb, Value.cells]⟩, rfl, rfl⟩
 ·intro sp hsp
  rw [List.append_nil, hargs]
  exact dh hl hts hA (fun x hx => hbel.same (hlt x hx)) (fun x hx => hsp x (by simpa using hx))
 ·intro sp _
  rw [List.append_nil, hvars, hsv]
  exact rfl
 ·exact RowKit.ok_one hr rfl (RowKit.okWide_bool_mk hb _)
def yK (o : AD) : zw where
 take := match o.op with
  | .move _ b | .load _ _ b | .extract _ _ b => b
  | _ => false
 vis := match o.op with
  | .call _ _ v => v
  | _ => none
 root := o.root
def sQ : Nat → List AD → List (Nat × zw)
 | _, [] => []
 | i, o :: r => (i, yK o) :: sQ (i + 1) r
def TR : B6 → List (List AD × List Nat)
 | .ops l k => [(l, k)]
 | .seq a b | .cond _ a b | .rng _ _ a b => TR a ++ TR b
 | .block _ a | .loop a | .scope a => TR a
 | _ => []
def nN : Nat → List (List AD × List Nat) → List Rn
 | _, [] => []
 | i, x :: r => ⟨i, sQ 0 x.1, x.2⟩ :: nN (i + 1) r
def yO (f : EQ) : List Rn := nN 0 (TR f.body)
def zI (f : EQ) (ids : List Nat) : List Rn := (yO f).zip ids |>.map fun p => { p.1 with id := p.2 }
end Go.Lf

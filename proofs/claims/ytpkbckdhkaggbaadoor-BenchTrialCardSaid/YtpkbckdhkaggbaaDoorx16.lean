/- A part of the proof. -/
import Derived.Test.YtpkbckdhkaggbaaDoorx15
set_option linter.all false
namespace Go.Lf
open Go
section
variable {T : Tables} {g : Gh} {w : World} {tss : List (Array Value)} {s s' : St} {ts : Array Value} {dst : Option Nat} {gi : Nat} {df : List Deferred} {C : AP}
theorem YB {im fm} (b o cap z : Nat) : Cf im fm (.slice (some ⟨b, o, none⟩) 0 cap) (.slice z []) :=
 .slice b o cap z [] (fun _ => Go.undef) (by simp) (by simp) (fun i hi => by simp at hi) (fun i c hc => by simp at hc)
theorem kS {im fm} {b o cap z : Nat} {xs : List DV} {us : Nat → Value} (hz : ∀ x, x ∈ xs → x.cells.length = z) (hi : ∀ i, i < xs.length * z → im b (o + i) = some (us i))
  (hr : ∀ i c, (xs.flatMap DV.cells)[i]? = some c → Cf im fm (us i) c) {l h : Nat} (hlh : l ≤ h) (hh : h ≤ xs.length) (hc : h - l ≤ cap) :
  Cf im fm (.slice (some ⟨b, o + l * z, none⟩) (h - l) cap) (.slice z ((xs.take h).drop l)) := by
 have hlen : ((xs.take h).drop l).length = h - l := by simp; omega
 have hget : ∀ (a : Nat) (e : DV), ((xs.take h).drop l)[a]? = some e → xs[l + a]? = some e := fun a e ha => by
  rw [List.getElem?_drop, List.getElem?_take] at ha
  split at ha
  ·exact ha
  ·simp at ha
 have hz' : ∀ x, x ∈ (xs.take h).drop l → x.cells.length = z := fun x hx => hz x (List.mem_of_mem_take (List.mem_of_mem_drop hx))
 have := Cf.slice (im := im) (fm := fm) b (o + l * z) cap z ((xs.take h).drop l) (fun i => us (l * z + i)) (by omega) hz' (fun i hin => by
  rw [Nat.add_assoc]
  apply hi
  rw [hlen] at hin
  have h1 : (l + (h - l)) * z ≤ xs.length * z := Nat.mul_le_mul_right z (by omega)
  rw [Nat.add_mul] at h1
  omega) (fun i c hic => by
  obtain ⟨a, r, e, rfl, h1, h2, h3⟩ := MX hz' hic
  have := hr _ _ (dz hz (hget a e h2) h3)
  rwa [show l * z + (a * z + r) = (l + a) * z + r by rw [Nat.add_mul]; omega])
 rwa [hlen] at this
theorem CC {P : Program} {w : World} {n y : Nat} {c : BoundsCode} (h : n ≤ y) : (Instr.sliceBound (.int .i64 n) y c).run P w = .ok n w := by
 simp [Instr.sliceBound, asIntOf, h]
theorem L0 {P : Program} {w : World} {len cap : Nat} {l h m : Option Nat} (hm : ∀ x, m = some x → x ≤ cap ∧ h.isSome = true) (hh : ∀ x, h = some x → x ≤ m.getD cap)
  (hl : ∀ x, l = some x → x ≤ h.getD len) :
  (Instr.sliceBounds true len cap (l.map fun (n : Nat) => Value.int .i64 (n : Int)) (h.map fun (n : Nat) => Value.int .i64 (n : Int)) (m.map fun (n : Nat) => Value.int .i64 (n : Int))).run P w = .ok (l.getD 0, h.getD len, m.getD cap) w := by
 unfold Instr.sliceBounds
 cases m with
 | none =>
  cases h with
  | none =>
   cases l with
   | none => simp
   | some l => simp only [Option.getD_none] at hl; simp [CC (hl l rfl)]
  | some h =>
   have h1 := hh h rfl
   simp only [Option.getD_none] at h1
   cases l with
   | none => simp only [Option.map_some, Option.map_none, Sem.run_bind, Sem.run_pure, Result.andThen_ok, CC h1, Option.getD_none, Option.getD_some, if_true]
   | some l =>
    have h2 := hl l rfl
    simp only [Option.getD_some] at h2
    simp only [Option.map_some, Option.map_none, Sem.run_bind, Sem.run_pure, Result.andThen_ok, CC h1, CC h2, Option.getD_none, Option.getD_some, if_true]
 | some m =>
  obtain ⟨h0, hs⟩ := hm m rfl
  cases h with
  | none => simp at hs
  | some h =>
   have h1 := hh h rfl
   simp only [Option.getD_some] at h1
   cases l with
   | none => simp only [Option.map_some, Option.map_none, Sem.run_bind, Sem.run_pure, Result.andThen_ok, CC h0, CC h1, Option.getD_none, Option.getD_some, if_true]
   | some l =>
    have h2 := hl l rfl
    simp only [Option.getD_some] at h2
    simp only [Option.map_some, Sem.run_bind, Sem.run_pure, Result.andThen_ok, CC h0, CC h1, CC h2, Option.getD_some, if_true]
theorem AS.optNat (h : AS T g w tss s ts) {xo : Option Operand} {x : Option vD} {n : Option Nat} (hx : Hy xo = some x) (hn : Lf.optNat (s.val T.LP) x = some n) :
  xo.map (⟨ts, df⟩ : Act).eval = n.map fun (n : Nat) => Value.int .i64 (n : Int) := by
 cases xo with
 | none =>
  simp only [Hy, Option.some.injEq] at hx
  subst hx
  simp only [Lf.optNat, Option.some.injEq] at hn
  subst hn; rfl
 | some xo =>
  simp only [Hy, Option.map_eq_some_iff] at hx
  obtain ⟨y, hy, rfl⟩ := hx
  simp only [Lf.optNat, Option.map_eq_some_iff] at hn
  obtain ⟨m, hm, rfl⟩ := hn
  have := (h.val (df := df) hy).nat hm
  simp [this]
theorem kx {t e : TypeId} {k : Option Nat} {xo : Operand} {x : vD} {loo hio mxo : Option Operand} {lo hi mx : Option vD} {o : Oper} (h : AS T g w tss s ts)
  (hd : ∀ d, dst = some d → d < ts.size) (hu : T.P.underlying t = some (.slice e)) (hk : C6 T.P e = some k) (hx : Aq xo = some x) (hlo : Hy loo = some lo)
  (hhi : Hy hio = some hi) (hmx : Hy mxo = some mx) (ho : o.op = .slice t xo loo hio mxo)
  (he : evalOp T.LP C gi dst (.slice (Bf k) x lo hi mx) s = some s') : BS T g w tss s s' ts dst gi ((execOp (⟨ts, df⟩ : Act).eval o).run T.P w) := by
 simp only [evalOp] at he
 have hX := h.val (df := df) hx
 obtain ⟨d, ie, _, hie, hs, _⟩ := Cb hk
 split at he
 ·rename_i nl nh nm h1 h2 h3
  have e1 := h.optNat (df := df) hlo h1
  have e2 := h.optNat (df := df) hhi h2
  have e3 := h.optNat (df := df) hmx h3
  split at he
  ·rename_i v hv
   unfold NM at hv
   split at hv
   ·rename_i hval
    rw [hval] at hX
    split at hv
    ·rename_i hc
     simp only [Option.some.injEq] at hv
     subst hv
     refine A6 h hd (v := .slice none 0 0) ?_ he (.d .nils) rfl
     simp only [execOp, ho, Instr.sliceAt, Sem.run_bind, AW hu, Result.andThen_ok, Instr.slice, Pi hX.dinv, e1, e2, e3]
     obtain ⟨c1, c2, c3, c4⟩ := hc
     have hb := L0 (P := T.P) (w := w) (len := 0) (cap := 0) (l := nl) (h := nh) (m := nm) (fun x hx => ?_) (fun x hx => ?_) (fun x hx => ?_)
     ·simp only [hb, Result.andThen_ok, CO hie, Sem.run_pure, c1, c2, c3]
      simp
     ·subst hx; exact ⟨by simpa using c3, c4 rfl⟩
     ·subst hx; simp only [Option.getD_some] at c2; omega
     ·subst hx; simp only [Option.getD_some] at c1; omega
    ·simp at hv
   ·split at hv
    ·simp at hv
    ·rename_i z xs hxs
     obtain ⟨b, o', sp, cap, us, hval, hsp, hcap, hz, him, hr⟩ := HK (Ib hX hxs)
     simp only at hv
     split at hv
     ·rename_i hc
      obtain ⟨rfl, hlh, hhl⟩ := hc
      have hxl : (⟨ts, df⟩ : Act).eval xo = .slice (some ⟨b, o', sp⟩) xs.length cap := hval
      have key : ∀ m, m = nm.getD cap → nh.getD xs.length ≤ m → (nm.isSome = true → nh.isSome = true) → m ≤ cap → Cf g.im g.fm (.slice (if m = nl.getD 0 then some ⟨b, o', sp⟩ else some ⟨b, o' + nl.getD 0 * Bf k, none⟩) (nh.getD xs.length - nl.getD 0) (m - nl.getD 0)) (.slice (Bf k) ((xs.take (nh.getD xs.length)).drop (nl.getD 0))) ∧
        (execOp (⟨ts, df⟩ : Act).eval o).run T.P w = .ok (.value (.slice (if m = nl.getD 0 then some ⟨b, o', sp⟩ else some ⟨b, o' + nl.getD 0 * Bf k, none⟩) (nh.getD xs.length - nl.getD 0) (m - nl.getD 0))) w := by
       intro m hm hle hsome hcapm
       have hb := L0 (P := T.P) (w := w) (len := xs.length) (cap := cap) (l := nl) (h := nh) (m := nm)
        (fun x hx => ⟨by rw [hx] at hm; simp only [Option.getD_some] at hm; omega, hsome (by rw [hx]; rfl)⟩)
        (fun x hx => by rw [← hm]; rw [hx] at hle; simpa using hle) (fun x hx => by rw [hx] at hlh; simpa using hlh)
       refine ⟨?_, ?_⟩
       ·by_cases hml : m = nl.getD 0
        ·have h0 : nh.getD xs.length - nl.getD 0 = 0 := by omega
         have hx0 : (xs.take (nh.getD xs.length)).drop (nl.getD 0) = [] := List.length_eq_zero_iff.1 (by simp; omega)
         have h00 : m - nl.getD 0 = 0 := by omega
         rw [if_pos hml, h0, hx0, h00]
         cases sp with
         | none => exact YB _ _ _ _
         | some sp => exact .gone _ _ _ _
        ·rw [if_neg hml]
         exact kS hz him hr hlh hhl (by omega)
       ·have hsp2 : m ≠ nl.getD 0 → sp = none := fun hne => hsp (by omega)
        cases sp with
        | some sp =>
         have hml : m = nl.getD 0 := Decidable.byContradiction fun hne => by simpa using hsp2 hne
         simp only [execOp, ho, Instr.sliceAt, Sem.run_bind, AW hu, Result.andThen_ok, Instr.slice, hxl, e1, e2, e3, hb, CO hie, Sem.run_pure, hs, ← hm, Option.map_some]
         simp only [if_pos hml]
        | none =>
         simp only [execOp, ho, Instr.sliceAt, Sem.run_bind, AW hu, Result.andThen_ok, Instr.slice, hxl, e1, e2, e3, hb, CO hie, Sem.run_pure, hs, ← hm, Option.map_some, G4]
      have hmx : ∀ m, nm = some m → m = nh.getD xs.length ∧ nh.isSome = true := fun m hm => by
       subst hm
       simp only at hv
       split at hv
       ·rename_i h0; exact h0
       ·simp at hv
      obtain ⟨k1, k2⟩ := key (nm.getD cap) rfl (by
       cases hnm : nm with
       | none => simp only [Option.getD_none]; omega
       | some m => have := (hmx m hnm).1; simp only [Option.getD_some]; omega) (fun hs' => by
       obtain ⟨m, hm⟩ := Option.isSome_iff_exists.1 hs'
       exact (hmx m hm).2) (by
       cases hnm : nm with
       | none => simp
       | some m => have := (hmx m hnm).1; simp only [Option.getD_some]; omega)
      cases hnm : nm with
      | none =>
       subst hnm
       simp only [Option.some.injEq] at hv
       subst hv
       exact A6 h hd k2 he (.d k1) rfl
      | some m =>
       subst hnm
       obtain ⟨rfl, hsome⟩ := hmx m rfl
       simp only at hv
       rw [if_pos ⟨by trivial, hsome⟩] at hv
       simp only [Option.some.injEq] at hv
       subst hv
       simp only [Option.getD_some] at k1 k2
       exact A6 h hd k2 he (.full k1) rfl
     ·simp at hv
  ·simp at he
 ·simp at he
end
end Go.Lf
namespace Go.Lf
open Go
theorem lS {need old q : Nat} (h : old < need) (h1 : need * q ≤ 70368744177664) : Builtin.nextslicecap need old * q ≤ 281474976710656 := by
 have := Nat.mul_le_mul_right q (nextslicecap_le h)
 rw [Nat.mul_assoc] at this
 omega
theorem Q6 {n q : Nat} (h : Ih n q = true) : n * q ≤ 70368744177664 := by simpa [Ih] using h
def vals (us : Nat → Value) (n : Nat) : List Value := (List.range n).map us
theorem CX (us : Nat → Value) (n : Nat) : (vals us n).length = n := by simp [vals]
theorem Mc (us : Nat → Value) {n i : Nat} (h : i < n) : (vals us n)[i]? = some (us i) := by simp [vals, h]
theorem Pm {us : Nat → Value} {n i : Nat} {v : Value} (h : (vals us n)[i]? = some v) : i < n ∧ v = us i := by
 have hi : i < n := by have := (List.getElem?_eq_some_iff.1 h).1; rwa [CX] at this
 rw [Mc us hi] at h
 simp only [Option.some.injEq] at h
 exact ⟨hi, h.symm⟩
theorem LU {b : Nat} {e : TypeId} : ∀ (vs : List Value) (o : Nat) (cs : Array Value) (w : World), w.heap[b]? = some (.cells cs e (0, 0)) →
  Rk w (w.setCells b o vs) b (Kw cs o vs) e
 | [], _, _, _, h => ⟨h, fun _ _ => rfl, rfl, rfl, rfl, rfl⟩
 | v :: r, o, cs, w, h => by
  have hb : b < w.heap.size := (Array.getElem?_eq_some_iff.1 h).1
  have h1 : (w.setCell ⟨b, o, none⟩ v).heap[b]? = some (.cells (cs.setIfInBounds o v) e (0, 0)) := by
   rw [ED h, Au _ _ _ _ hb, if_pos rfl]
  have ih := LU r (o + 1) _ _ h1
  rw [World.setCells, Kw]
  refine ⟨ih.here, fun c hc => ?_, ?_, ?_, ?_, ?_⟩
  ·rw [ih.there c hc, ED h, Au _ _ _ _ hb, if_neg hc]
  ·rw [ih.size, ED h]; simp [AD]
  ·rw [ih.os, ED h]; rfl
  ·rw [ih.tape, ED h]; rfl
  ·rw [ih.output, ED h]; rfl
section
variable {T : Tables} {g : Gh} {w : World} {tss : List (Array Value)} {s s' : St} {ts : Array Value} {dst : Option Nat} {gi : Nat} {df : List Deferred} {C : AP}
theorem BS.after {s2 : St} {g1 : Gh} {r : Result Next} (hk : N5 g w g1 w) (hg : g1.gb = g.gb) (hc : s2.ctr = s.ctr) (h : BS T g1 w tss s2 s' ts dst gi r) :
  BS T g w tss s s' ts dst gi r := by
 obtain ⟨g', w', v, h1, h2, h3, h4⟩ := h
 exact ⟨g', w', v, h1, hk.trans h2, h3, fun n hn hne => by rw [h4 n (by rw [hc]; exact hn) hne, hg]⟩
theorem AS.turn (h : AS T g w tss s ts) {g' : Gh} {w' : World} {x : Nat} (hx : ∀ sl, s.env.get x = some sl → ∃ c : LV, sl = .v c ∧ c.cold = true) (hw : IU T g' w' s.ctr)
  (hl : g.Le g') (hk : ∀ b p, g.ow b = some p → (∀ i, p ≠ .slot s.low.length x i) → NG g w g' w' b) : AS T g' w' tss s ts := by
 refine ⟨hw, h.stack.keep hl fun c q hc hq => hk c q hc fun i e => by subst e; simp [DX.level] at hq, fun t sl hs => ?_⟩
 by_cases ht : t = x
 ·subst ht
  obtain ⟨c, rfl, hc⟩ := hx sl hs
  have hr := (h.env t _ hs).v_inv.1
  exact .v (hr.mono hl) (Fb.of_cold (hr.mono hl) hc)
 ·exact (h.env t sl hs).keep hl fun c i hc => hk c _ hc fun i' e => by simp only [DX.slot.injEq] at e; exact ht e.2.1
theorem rC (h : AS T g w tss s ts) {size : Nat} {tx e' : TypeId} (htx : T.P.underlying tx = some (.slice e')) {v : Value} {y : LV} (hr : Bj g v y) :
  (y = .d .nils → v = .slice none 0 0) ∧
  ∀ {ys : List DV}, MI y = some (size, ys) → ∃ (b o : Nat) (sp : Option Nat) (cap : Nat) (us : Nat → Value), v = .slice (some ⟨b, o, sp⟩) ys.length cap ∧ (0 < ys.length → sp = none) ∧ (∀ x, x ∈ ys → x.cells.length = size) ∧
   (∀ i, i < ys.length * size → g.im b (o + i) = some (us i)) ∧ (∀ i c, (ys.flatMap DV.cells)[i]? = some c → Cf g.im g.fm (us i) c) ∧
   Src T.P size tx v ys.length (vals us (ys.length * size)) w := by
 refine ⟨fun hy => by subst hy; exact Pi hr.dinv, fun {ys} hy => ?_⟩
 obtain ⟨b, o, sp, cap, us, rfl, hsp, hc, hz, hi, hrep⟩ := HK (Ib hr hy)
 refine ⟨b, o, sp, cap, us, rfl, fun h0 => hsp (by omega), hz, hi, hrep, Src.ofSlice (P := T.P) w htx ⟨b, o, sp⟩ ys.length cap _ (CX _ _) (fun j u hu => ?_) fun u hu => ?_⟩
 ·obtain ⟨hj, rfl⟩ := Pm hu
  obtain rfl := hsp (by rcases Nat.eq_zero_or_pos ys.length with h0 | h0 <;> first | omega | (rw [h0] at hj; simp at hj))
  rw [G4]
  exact h.winv.im _ _ _ (hi j hj)
 ·obtain ⟨j, hj, hju⟩ := List.getElem_of_mem hu
  obtain ⟨hj', rfl⟩ := Pm (List.getElem?_eq_getElem hj ▸ congrArg some hju)
  exact h.winv.one _ _ _ (hi j hj')
theorem KI {xo yo : Operand} {t tx : TypeId} {o : Oper} (ho : o.op = .call { callee := .builtin .append, args := #[xo, yo], argTypes := #[t, tx] }) {v : Value} {w' : World}
  {xv yv : Value} (hx : (⟨ts, df⟩ : Act).eval xo = xv) (hy : (⟨ts, df⟩ : Act).eval yo = yv)
  (hr : (Builtin.append_ #[t, tx] o.type #[xv, yv]).run T.P w = .ok v w') : (execOp (⟨ts, df⟩ : Act).eval o).run T.P w = .ok (.value v) w' := by
 simp only [execOp, ho, resolve, invoke, builtin, List.map_toArray, List.map_cons, List.map_nil, hx, hy, Sem.run_bind, Sem.run_pure, Result.andThen_ok, hr, pure_bind]
theorem aU {im fm} {z : Nat} {xs ys : List DV} {ux uy : Nat → Value} (hx : ∀ x, x ∈ xs → x.cells.length = z)
  (rx : ∀ i c, (xs.flatMap DV.cells)[i]? = some c → Cf im fm (ux i) c) (ry : ∀ i c, (ys.flatMap DV.cells)[i]? = some c → Cf im fm (uy i) c) :
  ∀ (i : Nat) (c : DV), ((xs ++ ys).flatMap DV.cells)[i]? = some c → Cf im fm (if i < xs.length * z then ux i else uy (i - xs.length * z)) c := by
 intro i c hc
 rw [List.flatMap_append] at hc
 have hl := KW hx
 by_cases hi : i < xs.length * z
 ·rw [List.getElem?_append_left (by omega)] at hc
  rw [if_pos hi]; exact rx i c hc
 ·rw [List.getElem?_append_right (by omega), hl] at hc
  rw [if_neg hi]; exact ry _ c hc
theorem TQ (h : AS T g w tss s ts) (hd : ∀ d, dst = some d → d < ts.size) {xo yo : Operand} {t tx e : TypeId} {i : TypeInfo} {zv : Value} {q : Nat} {o : Oper}
  (ho : o.op = .call { callee := .builtin .append, args := #[xo, yo], argTypes := #[t, tx] })
  (ht : T.P.underlying t = some (.slice e)) (hi : T.P.info? e = some i) (hz : i.zero = some zv) (hzv : zv.cells.size = i.size) (hb : i.bytes = q) (hq0 : q ≠ 0)
  {base : Option Addr} {cap : Nat} {xs ys : List DV} {ux uy : Nat → Value} {yv : Value} (hxv : (⟨ts, df⟩ : Act).eval xo = .slice base xs.length cap) (hyv : (⟨ts, df⟩ : Act).eval yo = yv)
  (hxz : ∀ x, x ∈ xs → x.cells.length = i.size) (hyz : ∀ x, x ∈ ys → x.cells.length = i.size)
  (hold : (Builtin.firstCells i.size xs.length (.slice base xs.length cap)).run T.P w.drew = .ok (vals ux (xs.length * i.size)).toArray w.drew)
  (hox : ∀ j, j < xs.length * i.size → (ux j).oneCell' = true) (rx : ∀ i c, (xs.flatMap DV.cells)[i]? = some c → Cf g.im g.fm (ux i) c)
  (ry : ∀ i c, (ys.flatMap DV.cells)[i]? = some c → Cf g.im g.fm (uy i) c) (hs : Src T.P i.size tx yv ys.length (vals uy (ys.length * i.size)) w)
  (hg : cap < xs.length + ys.length) (hroom : (xs.length + ys.length) * q ≤ 70368744177664) (hp : s.put dst (.hot i.size (xs ++ ys)) = some s') :
  BS T g w tss s s' ts dst gi ((execOp (⟨ts, df⟩ : Act).eval o).run T.P w) := by
 subst hb
 have hfit := lS hg hroom
 have hnb : (xs.length + ys.length) * i.bytes ≤ 281474976710656 := Nat.le_trans (Nat.mul_le_mul_right _ (le_nextslicecap hg)) hfit
 have h63 : ((xs.length + ys.length : Nat) : Int) ≤ 9223372036854775807 := by
  have : xs.length + ys.length ≤ (xs.length + ys.length) * i.bytes := Nat.le_mul_of_pos_right _ (by omega)
  omega
 have hrun := run_append_grow_src (P := T.P) w t tx o.type e i zv ht hi hz base xs.length cap _ hold yv ys.length _ hs hg h63 hfit
 have hge := grownCap_ge w (xs.length + ys.length) cap e
 have hzs : (Builtin.zeroCells zv.cells (grownCap w (xs.length + ys.length) cap e - (xs.length + ys.length))).size = (grownCap w (xs.length + ys.length) cap e - (xs.length + ys.length)) * i.size := by
  simp [Builtin.zeroCells, hzv]
 have hget : ∀ j, j < (xs.length + ys.length) * i.size → (((vals ux (xs.length * i.size) ++ vals uy (ys.length * i.size)).toArray ++ Builtin.zeroCells zv.cells (grownCap w (xs.length + ys.length) cap e - (xs.length + ys.length))).getD j Go.undef) =
   if j < xs.length * i.size then ux j else uy (j - xs.length * i.size) := by
  intro j hj
  rw [Nat.add_mul] at hj
  rw [Array.getD_eq_getD_getElem?, Array.getElem?_append_left (by simp [CX]; omega)]
  simp only [List.getElem?_toArray]
  by_cases hjx : j < xs.length * i.size
  ·rw [List.getElem?_append_left (by rw [CX]; exact hjx), Mc _ hjx, if_pos hjx]; rfl
  ·rw [List.getElem?_append_right (by rw [CX]; omega), CX, Mc _ (by omega), if_neg hjx]; rfl
 refine Nr h hd (w0 := w.drew) (z := i.size) (cap := grownCap w (xs.length + ys.length) cap e) (xs := xs ++ ys) rfl rfl rfl rfl (by simpa using hge) (fun x hx => ?_) ?_ (fun j c hc => ?_) (fun j hj => ?_)
  (KI ho hxv hyv (by rw [hrun]; simp only [List.length_append]; rfl)) hp
 ·rcases List.mem_append.1 hx with hx | hx
  ·exact hxz x hx
  ·exact hyz x hx
 ·have hcm : grownCap w (xs.length + ys.length) cap e * i.size = (xs.length + ys.length) * i.size + (grownCap w (xs.length + ys.length) cap e - (xs.length + ys.length)) * i.size := by
   rw [← Nat.add_mul]; congr 1; omega
  rw [Array.size_append, hzs]
  simp only [List.size_toArray, List.length_append, CX]
  rw [hcm, Nat.add_mul]
  omega
 ·have hlt : j < (xs.length + ys.length) * i.size := by
   have h1 := (List.getElem?_eq_some_iff.1 hc).1
   rw [List.flatMap_append, List.length_append, KW hxz, KW hyz, ← Nat.add_mul] at h1
   exact h1
  rw [hget j hlt]
  exact aU hxz rx ry j c hc
 ·have hlt : j < (xs.length + ys.length) * i.size := by simpa using hj
  rw [hget j hlt]
  split
  ·exact hox j ‹_›
  ·rw [Nat.add_mul] at hlt
   exact hs.one _ (List.mem_of_getElem? (Mc uy (i := j - xs.length * i.size) (by omega)))
theorem kd {b o n : Nat} {us : Nat → Value} (h : AS T g w tss s ts) (hi : ∀ i, i < n → g.im b (o + i) = some (us i)) (j : Nat) (u : Value) (hu : (vals us n)[j]? = some u) :
  w.drew.cell? ((⟨b, o, none⟩ : Addr).add j) = some u := by
 obtain ⟨hj, rfl⟩ := Pm hu
 rw [G4]
 exact h.winv.im _ _ _ (hi j hj)
theorem JG {a b : Nat} (h : 0 < a * b) : 0 < a := by
 rcases Nat.eq_zero_or_pos a with h1 | h1
 ·rw [h1] at h; simp at h
 ·exact h1
theorem mc {b o n : Nat} {sp : Option Nat} {us : Nat → Value} (h : AS T g w tss s ts) (hsp : 0 < n → sp = none) (hi : ∀ i, i < n → g.im b (o + i) = some (us i)) (j : Nat) (u : Value) (hu : (vals us n)[j]? = some u) :
  w.drew.cell? ((⟨b, o, sp⟩ : Addr).add j) = some u := by
 obtain ⟨hj, -⟩ := Pm hu
 obtain rfl := hsp (by omega)
 exact kd h hi j u hu
theorem Ut {P : Program} {t tx ty e : TypeId} {i : TypeInfo} (ht : P.underlying t = some (.slice e)) (hi : P.info? e = some i) {base : Option Addr} {n cap : Nat} {yv : Value}
  (hs : Src P i.size tx yv 0 [] w) (hn : n ≤ cap) : (Builtin.append_ #[t, tx] ty #[.slice base n cap, yv]).run P w = .ok (.slice base n cap) w := by
 rcases hs.kind with ⟨e', hk⟩ | hk <;> cases base <;> simp [Builtin.append_, AW ht, AW hk, sizeOf, typeInfo, hi, hs.len, hn, hs.cells, storeCells]
theorem js {xo yo : Operand} {x y : vD} {t tx e e' : TypeId} {k : Option Nat} {zs : List DV} {q : Nat} {o : Oper} (h : AS T g w tss s ts) (hd : ∀ d, dst = some d → d < ts.size)
  (ho : o.op = .call { callee := .builtin .append, args := #[xo, yo], argTypes := #[t, tx] }) (ht : T.P.underlying t = some (.slice e)) (htx : T.P.underlying tx = some (.slice e'))
  (hk : C6 T.P e = some k) (hz : zeroCells T.P e = some zs) (hb : bytesOf T.P e = some q) (hn0 : Bf k ≠ 0) (hq0 : q ≠ 0) (hx : Aq xo = some x) (hy : Aq yo = some y)
  (he : evalOp T.LP C gi dst (.append (Bf k) q x y) s = some s') :
  BS T g w tss s s' ts dst gi ((execOp (⟨ts, df⟩ : Act).eval o).run T.P w) := by
 simp only [evalOp] at he
 obtain ⟨k', i, zv, hk', hi, hzv, hzl, hzs, _, _⟩ := G0 hz
 rw [hk] at hk'
 simp only [Option.some.injEq] at hk'
 subst hk'
 obtain ⟨_, i', _, hi', hsi, _⟩ := Cb hk
 rw [hi] at hi'
 simp only [Option.some.injEq] at hi'
 subst hi'
 have hbq : i.bytes = q := by simpa [bytesOf, hi] using hb
 have hzc : zv.cells.size = i.size := by rw [hzs, hzl, hsi]
 obtain ⟨h1, h2, h3, h4, h5⟩ := h.take (df := df) hx
 split at he
 ·rename_i v hv
  have hY := h2.val (df := df) hy
  obtain ⟨hyn, hys⟩ := rC h2 (size := i.size) htx hY
  have hcold : (s.take T.LP x).1.cold = true → (s.take T.LP x).2 = s := fun hc => by
   rcases h5 with ⟨_, h⟩ | ⟨t', z, xs, _, hh, _⟩
   ·exact h
   ·rw [hh] at hc; simp [LV.cold] at hc
  generalize hxv : (s.take T.LP x).1 = xv at h1 h5 hv hcold
  generalize hyv : (s.take T.LP x).2.val T.LP y = yv at hv hY hyn hys
  generalize hs2 : (s.take T.LP x).2 = s2 at h2 h3 h4 h5 he hcold
  unfold A7 at hv
  have none_case : ∀ {yw : Value} (hyw : (⟨ts, df⟩ : Act).eval yo = yw), Src T.P i.size tx yw 0 [] w → v = xv → (xv = .d .nils ∨ ∃ z xs, xv = .full z xs ∨ xv = .hot z xs) →
    BS T g w tss s s' ts dst gi ((execOp (⟨ts, df⟩ : Act).eval o).run T.P w) := by
   intro yw hyw hsrc hve hform
   subst hve
   have hrun : ∃ base n cap, (⟨ts, df⟩ : Act).eval xo = .slice base n cap ∧ n ≤ cap := by
    rcases hform with rfl | ⟨z, xs, rfl | rfl⟩
    ·exact ⟨none, 0, 0, Pi h1.dinv, Nat.le_refl _⟩
    ·obtain ⟨b, o, sp, cap, us, hval, _, hc, _⟩ := HK (Ib h1 rfl); exact ⟨_, _, _, hval, hc⟩
    ·obtain ⟨b, o, sp, cap, us, hval, _, hc, _⟩ := HK (Ib h1 rfl); exact ⟨_, _, _, hval, hc⟩
   obtain ⟨base, n, cap, hval, hnc⟩ := hrun
   have hr := KI (T := T) ho hval hyw (Ut (P := T.P) (ty := o.type) ht hi hsrc hnc)
   rw [← hval] at hr
   rcases h5 with ⟨hc, rfl⟩ | ⟨t', z, xs, rfl, rfl, hbot, _, hown⟩
   ·exact A6 h hd hr he h1 hc
   ·obtain ⟨b, o2, cap2, hv2, hb2, hi2, cells, e2, hh2, hcap2⟩ := hown
    have hre := h2.reown (p := .slot s.low.length (dst.getD 0) 0) (b := b) (x := t') (i := 0) (by rw [h3]; exact hb2) fun sl hs => by rw [hbot] at hs; simp only [Option.some.injEq] at hs; subst hs; exact ⟨_, rfl, rfl⟩
    refine ⟨_, w, _, .inl hr, Oy hb2, hre.put he hd (h1.mono (g.own_le b _)) fun d hdd => ?_, fun n _ _ => rfl⟩
    subst hdd
    rw [h3]
    exact ⟨b, o2, cap2, hv2, by simp [Gh.own], hi2, cells, e2, hh2, hcap2⟩
  split at hv
  ·
   have hyw := hyn rfl
   have hsrc : Src T.P i.size tx (.slice none 0 0) 0 [] w := Src.ofNil (P := T.P) w htx 0
   split at hv
   ·simp only [Option.some.injEq] at hv
    exact (none_case hyw hsrc hv.symm (.inl rfl))
   ·split at hv
    ·simp only [Option.some.injEq] at hv
     exact (none_case hyw hsrc hv.symm (.inr ⟨_, _, .inl rfl⟩))
    ·simp at hv
   ·split at hv
    ·rename_i hc
     subst hc
     simp only [Option.some.injEq] at hv
     exact (none_case hyw hsrc hv.symm (.inr ⟨_, _, .inr rfl⟩))
    ·simp at hv
   ·simp at hv
  ·split at hv
   ·simp at hv
   ·rename_i zy ys hel
    split at hv
    ·simp at hv
    ·rename_i hzy
     have hzy : zy = Bf k := Decidable.not_not.1 hzy
     subst hzy
     rw [← hsi] at hel
     obtain ⟨by', oy, spy, capy, uy, hyw, hspy, hyz, hyi, hyr, hsrc⟩ := hys hel
     by_cases hy0 : ys = []
     ·
      subst hy0
      have hsrc0 : Src T.P i.size tx (.slice (some ⟨by', oy, spy⟩) 0 capy) 0 [] w := by simpa [vals, hyw] using hsrc
      have hyw0 : (⟨ts, df⟩ : Act).eval yo = .slice (some ⟨by', oy, spy⟩) 0 capy := by simpa using hyw
      split at hv
      ·simp only [if_true, Option.some.injEq] at hv
       exact (none_case hyw0 hsrc0 hv.symm (.inl rfl))
      ·split at hv
       ·simp only [if_true, Option.some.injEq] at hv
        exact (none_case hyw0 hsrc0 hv.symm (.inr ⟨_, _, .inl rfl⟩))
       ·simp at hv
      ·split at hv
       ·rename_i hc
        obtain ⟨rfl, _⟩ := hc
        simp only [Option.some.injEq, List.append_nil] at hv
        exact (none_case hyw0 hsrc0 hv.symm (.inr ⟨_, _, .inr rfl⟩))
       ·simp at hv
      ·simp at hv
     ·have hyl : 0 < ys.length := List.length_pos_iff.2 hy0
      obtain rfl := hspy hyl
      rw [hyw] at hsrc
      split at hv
      ·
       rw [if_neg hy0] at hv
       split at hv
       ·rename_i hrm
        simp only [Option.some.injEq] at hv
        subst hv
        have := hcold rfl
        subst this
        have hxw := Pi h1.dinv
        exact TQ (T := T) (xs := []) (ys := ys) (base := none) (cap := 0) (ux := fun _ => Go.undef) (uy := uy) (gi := gi) (s' := s') h hd ho ht hi hzv hzc hbq hq0 (by simpa using hxw) hyw (by simp) hyz
         (by simp [vals, Builtin.firstCells]) (by simp) (by simp) hyr hsrc (by simpa using hyl) (by simpa using Q6 hrm) (by rw [hsi]; exact he)
       ·simp at hv
      ·
       rename_i zx xs
       split at hv
       ·rename_i hc
        subst hc
        split at hv
        ·rename_i hrm
         simp only [Option.some.injEq] at hv
         subst hv
         have := hcold rfl
         subst this
         generalize hxw : (⟨ts, df⟩ : Act).eval xo = xw at h1
         cases h1 with
         | @full a n _ _ h1 =>
          obtain ⟨b, o2, sp2, cap, ux, hval, hsp2, hc, hxz, hxi, hxr⟩ := HK h1
          simp only [Value.slice.injEq] at hval
          obtain ⟨rfl, rfl, rfl⟩ := hval
          exact TQ (T := T) (xs := xs) (ys := ys) (ux := ux) (uy := uy) (gi := gi) (s' := s') h hd ho ht hi hzv hzc hbq hq0 hxw hyw (by rw [hsi]; exact hxz) hyz
           (run_firstCells_some (P := T.P) w.drew i.size _ _ _ _ _ (CX _ _) (mc h (fun h0 => hsp2 (JG h0)) (by rw [hsi]; exact hxi)))
           (fun j hj => h.winv.one _ _ _ (hxi j (by rw [hsi] at hj; exact hj))) hxr hyr hsrc (by omega) (Q6 hrm) (by rw [hsi]; exact he)
        ·simp at hv
       ·simp at hv
      ·
       rename_i zx xs
       split at hv
       ·rename_i hc
        obtain ⟨rfl, hrm⟩ := hc
        simp only [Option.some.injEq] at hv
        subst hv
        rcases h5 with ⟨hc, _⟩ | ⟨t', z, xs', rfl, hh, hbot, _, hown⟩
        ·simp [LV.cold] at hc
        ·simp only [LV.hot.injEq] at hh
         obtain ⟨rfl, rfl⟩ := hh
         obtain ⟨b, o2, sp2, cap, us, hval, _, hcap, hxz, hxi, hxr⟩ := HK (Ib h1 rfl)
         obtain ⟨b', o2', cap', hv2, hb2, hi2, cells, e2, hh2, hroom⟩ := hown
         rw [hval] at hv2
         simp only [Value.slice.injEq, Option.some.injEq, Addr.mk.injEq, and_true, true_and] at hv2
         obtain ⟨⟨rfl, rfl, rfl⟩, rfl⟩ := hv2
         by_cases hfit : xs.length + ys.length ≤ cap
         ·have hst := LU (vals uy (ys.length * i.size)) (o2 + xs.length * i.size) cells w hh2
          have hxy : xs.length * i.size + ys.length * i.size ≤ cap * i.size := by rw [← Nat.add_mul]; exact Nat.mul_le_mul_right _ hfit
          rw [← hsi] at hroom hi2 hxi hxz
          have hroom2 : o2 + xs.length * i.size + ys.length * i.size ≤ cells.size := by omega
          have hcell : ∀ j, j < cells.size → w.cell? ⟨b, j, none⟩ = some (cells.getD j Go.undef) := fun j hj => Da hh2 hj
          have hrun := KI (T := T) ho hval hyw (run_append_room_src (P := T.P) w t tx o.type e i ht hi b o2 xs.length cap _ ys.length _ hsrc hfit
           (fun j hj => by rw [CX] at hj; rw [hcell _ (by omega)]; rfl) (fun j _ => by simp [World.frozen?, hh2]))
          generalize hw' : w.setCells b (o2 + xs.length * i.size) (vals uy (ys.length * i.size)) = w' at hst hrun
          let g' := g.know b (o2 + xs.length * i.size) (ys.length * i.size) fun j => uy (j - (o2 + xs.length * i.size))
          have hle : g.Le g' := Xl g fun j hj _ => hi2 j hj
          have hnew : ∀ j, j < cells.size → w'.cell? ⟨b, j, none⟩ = some (if o2 + xs.length * i.size ≤ j ∧ j < o2 + xs.length * i.size + ys.length * i.size then uy (j - (o2 + xs.length * i.size)) else cells.getD j Go.undef) := fun j hj => by
           rw [Da hst.here (by rw [JM]; exact hj), MV _ _ _ _ (by rw [CX]; exact hroom2), CX]
           split
           ·rename_i hin
            simp only [List.getD, Mc uy (show j - (o2 + xs.length * i.size) < ys.length * i.size by omega), Option.getD_some]
           ·rfl
          have hW : IU T g' w' s2.ctr := by
           refine ⟨fun b' j u hu => ?_, fun b' j u hu => ?_, fun b' es hf => ?_, fun b' p hp => ?_, fun n b' hn => ?_, fun b' d hb => ?_, h2.winv.ctr, fun n => (h2.winv.globs n).mono hle.im hle.fm⟩
           ·by_cases hb' : b' = b
            ·subst hb'
             by_cases hin : o2 + xs.length * i.size ≤ j ∧ j < o2 + xs.length * i.size + ys.length * i.size
             ·rw [H4 _ hin] at hu
              simp only [Option.some.injEq] at hu
              subst hu
              rw [hnew j (by omega), if_pos hin]
             ·rw [Cc _ (by omega)] at hu
              have hc := h2.winv.im _ _ _ hu
              have hjs : j < cells.size := by
               rcases Nat.lt_or_ge j cells.size with h' | h'
               ·exact h'
               ·simp [World.cell?, hh2, Array.getElem?_eq_none h'] at hc
              rw [hcell j hjs] at hc
              rw [hnew j hjs, if_neg hin]; exact hc
            ·rw [Cc _ (.inl hb')] at hu
             rw [EQ (hst.there _ hb')]
             exact h2.winv.im _ _ _ hu
           ·by_cases hin : b' = b ∧ o2 + xs.length * i.size ≤ j ∧ j < o2 + xs.length * i.size + ys.length * i.size
            ·obtain ⟨rfl, hin⟩ := hin
             rw [H4 _ hin] at hu
             simp only [Option.some.injEq] at hu
             subst hu
             exact hsrc.one _ (List.mem_of_getElem? (Mc uy (i := j - (o2 + xs.length * i.size)) (by omega)))
            ·rw [Cc _ (by omega)] at hu
             exact h2.winv.one _ _ _ hu
           ·have : b' ≠ b := fun e => by subst e; obtain ⟨c, hc⟩ := h2.winv.fm _ _ hf; rw [hh2] at hc; simp at hc
            rw [hst.there _ this]; exact h2.winv.fm _ _ hf
           ·rw [hst.size]; exact h2.winv.ow _ _ hp
           ·rw [hst.size]; exact h2.winv.gb _ _ hn
           ·obtain ⟨r, hr, hd'⟩ := h2.winv.lp _ _ hb
            have : b' ≠ b := fun e => by subst e; rw [hh2] at hr; simp at hr
            exact ⟨r, by rw [hst.there _ this]; exact hr, hd'⟩
          have hunch : ∀ c, c ≠ b → NG g w g' w' c := fun c hc => ⟨hst.there c hc, fun j => Cc g (.inl hc), rfl, rfl⟩
          have hslot : ∀ sl, s2.env.get t' = some sl → ∃ c : LV, sl = .v c ∧ c.cold = true := fun sl hs => by
           rw [hbot] at hs; simp only [Option.some.injEq] at hs; subst hs; exact ⟨_, rfl, rfl⟩
          have hturn : AS T g' w' tss s2 ts := h2.turn (x := t') hslot hW hle fun c p hcp hp => hunch c fun e => by
           subst e; rw [hb2] at hcp; simp only [Option.some.injEq] at hcp; rw [h3] at hp; exact hp 0 hcp.symm
          have hre := hturn.reown (p := .slot s.low.length (dst.getD 0) 0) (b := b) (x := t') (i := 0) (by rw [h3]; exact hb2) hslot
          have hrep : Cf g'.im g'.fm (.slice (some ⟨b, o2, none⟩) (xs.length + ys.length) cap) (.slice (Bf k) (xs ++ ys)) := by
           have hxy' : ∀ x, x ∈ xs ++ ys → x.cells.length = i.size := fun x hx => by
            rcases List.mem_append.1 hx with hx | hx
            ·exact hxz x hx
            ·exact hyz x hx
           have := Cf.slice (im := g'.im) (fm := g'.fm) b o2 cap i.size (xs ++ ys) (fun j => if j < xs.length * i.size then us j else uy (j - xs.length * i.size)) (by simpa using hfit) hxy' (fun j hj => by
            rw [List.length_append, Nat.add_mul] at hj
            by_cases hjx : j < xs.length * i.size
            ·rw [Cc _ (by omega), if_pos hjx]; exact hxi j hjx
            ·rw [H4 _ (by omega), if_neg hjx]
             congr 2; omega) (fun j c hc => (aU hxz hxr hyr j c hc).mono hle.im hle.fm)
           rwa [List.length_append, hsi] at this
          refine ⟨g'.own b (.slot s.low.length (dst.getD 0) 0), w', _, .inl hrun, ⟨hle.trans (g'.own_le b _), fun c hc hco => ?_, by rw [hst.size]; exact Nat.le_refl _, hst.os, hst.tape, hst.output, fun c => by
           unfold QL
           by_cases hc : c = b
           ·subst hc; rw [hst.here, hh2]; rfl
           ·rw [hst.there c hc]⟩,
           hre.put he hd (.hot (hrep.mono (g'.own_le b _).im (g'.own_le b _).fm)) fun d hdd => ?_, fun n _ _ => rfl⟩
          ·have hcb : c ≠ b := fun e => by subst e; rw [hb2] at hco; simp at hco
           exact (hunch c hcb).trans (Hv g' w' b _ c hcb)
          ·subst hdd
           rw [h3]
           refine ⟨b, o2, cap, by rw [List.length_append], by simp [Gh.own], fun j hj => ?_, _, e2, hst.here, by rw [JM, ← hsi]; exact hroom⟩
           rw [List.length_append, Nat.add_mul, ← hsi] at hj
           show g'.im b j = none
           rw [Cc _ (by omega)]
           exact hi2 j (by omega)
         ·exact BS.after (.refl g w) rfl h4 (TQ (T := T) (xs := xs) (ys := ys) (ux := us) (uy := uy) (gi := gi) (s' := s') h2 hd ho ht hi hzv hzc hbq hq0 hval hyw (by rw [hsi]; exact hxz) hyz
           (run_firstCells_some (P := T.P) w.drew i.size _ _ _ _ _ (CX _ _) (kd h (by rw [hsi]; exact hxi)))
           (fun j hj => h.winv.one _ _ _ (hxi j (by rw [hsi] at hj; exact hj))) hxr hyr hsrc (by omega) (Q6 hrm) (by rw [hsi]; exact he))
       ·simp at hv
      ·simp at hv
 ·simp at he
end
end Go.Lf

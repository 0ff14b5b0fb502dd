/- States with few slots known, and the rules by which the evaluator is reckoned. -/
import Derived.Test.YtckonoejmjblfaaGreatDoorPkEvP
set_option linter.unusedVariables false
set_option linter.unusedSimpArgs false
namespace Go.Proofs.YtckonoejmjblfaaGreatDoor.Ev
open Go Go.RowKit

/-- A state with few slots known. -/
def mkSl : Nat → Nat → List (Nat × V) → List V
  | 0, _, _ => []
  | n + 1, i, l => (look l i).getD V.un :: mkSl n (i + 1) l
def st (n : Nat) (l : List (Nat × V)) (bx : List (Nat × List W)) (tk : List (Nat × Tok)) (gl : List (List W)) (ro : Nat) (it : List (Nat × (List UInt8 × Nat)) := []) : St := ⟨mkSl n 0 l, bx, tk, gl, ro, it⟩
def lk (l : List (Nat × V)) (i : Nat) : V := (look l i).getD V.un
theorem lk_nil (i : Nat) : lk [] i = V.un := rfl
theorem lk_cons (j : Nat) (v : V) (r : List (Nat × V)) (i : Nat) : lk ((j, v) :: r) i = if j = i then v else lk r i := by
  unfold lk
  simp only [look]
  split <;> rfl
theorem mkSl_get : ∀ (n i : Nat) (l : List (Nat × V)) (j : Nat), (mkSl n i l)[j]? = if j < n then some (lk l (i + j)) else none
  | 0, i, l, j => by simp [mkSl]
  | n + 1, i, l, 0 => by simp [mkSl, lk]
  | n + 1, i, l, j + 1 => by
    simp only [mkSl, List.getElem?_cons_succ]
    rw [mkSl_get n (i + 1) l j]
    simp only [Nat.add_lt_add_iff_right]
    rw [show i + 1 + j = i + (j + 1) by omega]
section
variable {n : Nat} {l : List (Nat × V)} {bx : List (Nat × List W)} {tk : List (Nat × Tok)} {gl : List (List W)} {ro : Nat} {it : List (Nat × (List UInt8 × Nat))}
theorem st_get {i : Nat} (h : i < n) : (st n l bx tk gl ro it).get i = lk l i := by
  unfold St.get st
  simp only [List.getD_eq_getElem?_getD]
  rw [mkSl_get, if_pos h]
  simp
theorem st_put {i : Nat} {v : V} (h : i < n) : (st n l bx tk gl ro it).put (some i) v = st n ((i, v) :: l) bx tk gl ro it := by
  unfold St.put st
  simp only [St.mk.injEq, and_true]
  apply List.ext_getElem?
  intro j
  rw [List.getElem?_set, mkSl_get, mkSl_get, Nat.zero_add, lk_cons]
  have hl : i < (mkSl n 0 l).length := by
    rcases Nat.lt_or_ge i (mkSl n 0 l).length with h' | h'
    · exact h'
    · have := mkSl_get n 0 l i
      rw [List.getElem?_eq_none h', if_pos h] at this
      cases this
  by_cases hij : i = j
  · subst hij
    rw [if_pos rfl, if_pos h, if_pos rfl, if_pos hl]
  · rw [if_neg hij, if_neg hij]
theorem st_no {v : V} : (st n l bx tk gl ro it).put none v = st n l bx tk gl ro it := rfl
theorem st_bx : (st n l bx tk gl ro it).bx = bx := rfl
theorem st_tk : (st n l bx tk gl ro it).tk = tk := rfl
theorem st_gl : (st n l bx tk gl ro it).gl = gl := rfl
theorem st_ro : (st n l bx tk gl ro it).ro = ro := rfl
theorem st_it : (st n l bx tk gl ro it).it = it := rfl
theorem st_mk {bx' : List (Nat × List W)} {tk' : List (Nat × Tok)} {gl' : List (List W)} {ro' : Nat} {it' : List (Nat × (List UInt8 × Nat))} : St.mk (st n l bx tk gl ro it).sl bx' tk' gl' ro' it' = st n l bx' tk' gl' ro' it' := rfl
def havL (keep : List Nat) (l : List (Nat × V)) : List Nat → List (Nat × V)
  | [] => []
  | k :: r => (k, (lk l k).hav keep) :: havL keep l r
theorem havL_lk (keep : List Nat) (l : List (Nat × V)) (j : Nat) : ∀ ks : List Nat, lk (havL keep l ks) j = if j ∈ ks then (lk l j).hav keep else V.un
  | [] => by simp [havL, lk_nil]
  | k :: r => by
    simp only [havL, lk_cons, havL_lk keep l j r, List.mem_cons]
    by_cases h : k = j
    · subst h; simp
    · rw [if_neg h]
      have : ¬ j = k := fun e => h e.symm
      simp [this]
theorem havSl_get' (keep : List Nat) : ∀ (l : List V) (i j : Nat), (havSl keep i l)[j]? = (l[j]?).map fun v => if keep.contains (i + j) then v.hav keep else V.un
  | [], i, j => by simp [havSl]
  | v :: r, i, 0 => by simp [havSl]
  | v :: r, i, j + 1 => by
    simp only [havSl, List.getElem?_cons_succ]
    rw [havSl_get' keep r (i + 1) j, show i + 1 + j = i + (j + 1) by omega]
theorem st_hav (keep : List Nat) : (st n l bx tk gl ro it).hav keep = st n (havL keep l keep) ((bx.filter fun p => keep.contains p.1).map (fun p => (p.1, p.2.map (W.hav keep)))) (tk.filter fun p => keep.contains p.1) gl ro (it.filter fun p => keep.contains p.1) := by
  unfold St.hav st
  simp only [St.mk.injEq, and_true]
  apply List.ext_getElem?
  intro j
  rw [havSl_get', mkSl_get, mkSl_get, Nat.zero_add, havL_lk]
  by_cases h : j < n
  · rw [if_pos h, if_pos h]
    simp
  · rw [if_neg h, if_neg h]
    rfl
end
def argsL : Nat → List C → List (Nat × V)
  | _, [] => []
  | i, a :: r => (i, .c a) :: argsL (i + 1) r
theorem argsL_lk : ∀ (xs : List C) (i j : Nat), lk (argsL i xs) j = if i ≤ j then (xs[j - i]?.map V.c).getD V.un else V.un
  | [], i, j => by simp [argsL, lk_nil]
  | a :: r, i, j => by
    simp only [argsL, lk_cons, argsL_lk r (i + 1) j]
    by_cases h : i = j
    · subst h; simp
    · rw [if_neg h]
      by_cases h' : i ≤ j
      · rw [if_pos h', if_pos (by omega), show j - i = (j - (i + 1)) + 1 by omega]
        simp
      · rw [if_neg h', if_neg (by omega)]
theorem initA_st (fn : Func) (args : List C) (ro : Nat) (gl : List (List W)) (h : args.length ≤ fn.ntmps) : initA fn args ro gl = st fn.ntmps (argsL 0 args) [] [] gl ro := by
  unfold initA st
  simp only [St.mk.injEq, and_true]
  apply List.ext_getElem?
  intro j
  rw [mkSl_get, Nat.zero_add, argsL_lk]
  simp only [Nat.zero_le, if_true, Nat.sub_zero]
  rw [List.getElem?_append, List.length_map, List.getElem?_map]
  by_cases hj : j < args.length
  · rw [if_pos hj, if_pos (by omega), List.getElem?_eq_getElem hj]; rfl
  · rw [if_neg hj, show args[j]? = none from List.getElem?_eq_none (by omega), List.getElem?_replicate]
    by_cases hn : j < fn.ntmps
    · rw [if_pos hn, if_pos (by omega)]; rfl
    · rw [if_neg hn, if_neg (by omega)]

/-! rounds of loops over functions -/
def psL : List Nat → List C → List (Nat × V) → List (Nat × V)
  | p :: ps, c :: cs, l => psL ps cs ((p, .c c) :: l)
  | _, _, l => l
def calmL (l : List (Nat × V)) : List (Nat × V) := l.map fun p => (p.1, p.2.calmed)
theorem calmL_lk (i : Nat) : ∀ l : List (Nat × V), lk (calmL l) i = (lk l i).calmed
  | [] => rfl
  | (j, v) :: r => by
    have : calmL ((j, v) :: r) = (j, v.calmed) :: calmL r := rfl
    rw [this, lk_cons, lk_cons, calmL_lk i r]
    split <;> rfl
theorem calm_st {n : Nat} {l : List (Nat × V)} : (mkSl n 0 l).map V.calmed = mkSl n 0 (calmL l) := by
  apply List.ext_getElem?
  intro j
  rw [List.getElem?_map, mkSl_get, mkSl_get, Nat.zero_add, calmL_lk]
  split <;> rfl
theorem setPs_st {n : Nat} : ∀ (ps : List Nat) (y : List C) (l : List (Nat × V)), (∀ p ∈ ps, p < n) → setPs ps y (mkSl n 0 l) = mkSl n 0 (psL ps y l)
  | [], y, l, _ => by cases y <;> rfl
  | p :: ps, [], l, _ => rfl
  | p :: ps, c :: y, l, h => by
    have h1 : (mkSl n 0 l).set p (.c c) = mkSl n 0 ((p, .c c) :: l) := by
      have := st_put (n := n) (l := l) (bx := []) (tk := []) (gl := []) (ro := 0) (it := []) (i := p) (v := .c c) (h p (by simp))
      exact congrArg St.sl this
    rw [setPs, h1, psL]
    exact setPs_st ps y _ fun q hq => h q (by simp [hq])
theorem roundC_st {P : Program} {cfg : Cfg} {fid : Nat} {call : Caller} {m n : Nat} {ab : Code × Code} {ps : List Nat} {l : List (Nat × V)} {bx : List (Nat × List W)} {tk : List (Nat × Tok)} {gl0 : List (List W)} {ro : Nat} {it : List (Nat × (List UInt8 × Nat))} {gl : List (List W)} {y : List C} (h : ∀ p ∈ ps, p < n) :
    roundC P cfg fid call m ab ps (st n l bx tk gl0 ro it) gl y = (evC P cfg fid call m ab.1 (st n (psL ps y (calmL l)) [] [] gl ro)).bind fun
      | (.normal, s1) => (evC P cfg fid call m ab.2 s1).bind fun r => some (r.1, r.2.gl)
      | _ => none := by
  unfold roundC roundA
  have e : ({ sl := setPs ps y ((st n l bx tk gl0 ro it).sl.map V.calmed), bx := [], tk := [], gl := gl, ro := (st n l bx tk gl0 ro it).ro, it := [] } : St) = st n (psL ps y (calmL l)) [] [] gl ro := by
    unfold st
    simp only [St.mk.injEq, and_true]
    rw [calm_st, setPs_st ps y _ h]
  rw [e]
  congr 1
  funext r
  rcases r with ⟨e, s1⟩
  cases e <;> simp [Option.map_eq_bind] <;> rfl

/-! slim operations -/
abbrev Gd := Option (Option (Nat × Bool))
def gd (ops : List Oper) (o : Oper) : Gd :=
  match o.guard with
  | none => some none
  | some (j, want) => ((ops[j]?).bind (·.dst)).map fun d => some (d, want)
def mkO (d : Option Nat) (op : Op) : Oper := { dst := d, op := op, type := 0, pos := "", after := #[], guard := none }
def stepB (P : Program) (cfg : Cfg) (fid : Nat) (call : Caller) (d : Option Nat) (op : Op) (s : St) : Gd → Option St
  | none => none
  | some none => opA P cfg fid call s (mkO d op)
  | some (some (t, want)) => match s.get t with
    | .c (.w (.d (.bool b))) => if b = want then opA P cfg fid call s (mkO d op) else some (s.put d V.no)
    | .tup [] => some (s.put d V.no)
    | _ => none
def opsB (P : Program) (cfg : Cfg) (fid : Nat) (call : Caller) : List (Option Nat × Op × Gd) → St → Option St
  | [], s => some s
  | (d, op, g) :: r, s => (stepB P cfg fid call d op s g).bind (opsB P cfg fid call r)
def slim (ops : List Oper) : List Oper → List (Option Nat × Op × Gd)
  | [] => []
  | o :: r => (o.dst, o.op, gd ops o) :: slim ops r
theorem opA_slim (P : Program) (cfg : Cfg) (fid : Nat) (call : Caller) (s : St) (o : Oper) : opA P cfg fid call s o = opA P cfg fid call s (mkO o.dst o.op) := by
  cases o
  rfl
theorem stepA_slim (P : Program) (cfg : Cfg) (fid : Nat) (call : Caller) (ops : List Oper) (s : St) (o : Oper) : stepA P cfg fid call ops s o = stepB P cfg fid call o.dst o.op s (gd ops o) := by
  unfold stepA wantedA gd
  cases hg : o.guard with
  | none => simp only [Option.bind_some, stepB]; exact opA_slim P cfg fid call s o
  | some g =>
    obtain ⟨j, want⟩ := g
    simp only
    cases hd : (ops[j]?).bind (·.dst) with
    | none => rfl
    | some t =>
      simp only [Option.bind_some, Option.map_some, stepB]
      split
      · rename_i b hb
        simp only [Option.bind_some, hb]
        by_cases hw : b = want
        · subst hw
          simp only [beq_self_eq_true, if_true]
          exact opA_slim P cfg fid call s o
        · rw [if_neg hw]
          have : (b == want) = false := by simpa using hw
          simp only [this]
      · rename_i hb
        simp only [hb, Option.bind_some]
      · rename_i h1 h2
        split
        · rename_i b hb; exact absurd hb (h1 b)
        · rename_i hb; exact absurd hb h2
        · rfl
theorem opsA_slim (P : Program) (cfg : Cfg) (fid : Nat) (call : Caller) (ops : List Oper) : ∀ (l : List Oper) (s : St), opsA P cfg fid call ops l s = opsB P cfg fid call (slim ops l) s
  | [], s => rfl
  | o :: r, s => by
    simp only [opsA, slim, opsB, stepA_slim]
    congr 1
    funext s'
    exact opsA_slim P cfg fid call ops r s'
def ksB (s : St) : List (Option Nat × Op × Gd) → Option (List Nat)
  | [] => some []
  | (_, op, _) :: r => match op with
    | .store _ (.tmp a) _ => match s.get a with
      | .c (.w (.box k _)) => (ksB s r).map (k :: ·)
      | _ => none
    | _ => ksB s r
def opsBL (P : Program) (cfg : Cfg) (fid : Nat) (call : Caller) (ks : List Nat) : List (Option Nat × Op × Gd) → St → Option St
  | [], s => some s
  | (d, op, g) :: r, s => if lazyOp ks s op then (stepB P cfg fid call d op s g).bind (opsBL P cfg fid call ks r) else none
theorem ks_slim (s : St) (ops : List Oper) : ∀ l : List Oper, lazyKs s l = ksB s (slim ops l)
  | [] => rfl
  | o :: r => by
    obtain ⟨dst, op, type, pos, after, guard⟩ := o
    simp only [lazyKs, slim, ksB, ks_slim s ops r]
    cases op <;> first | rfl | (rename_i x _; cases x <;> rfl)
theorem opsL_slim (P : Program) (cfg : Cfg) (fid : Nat) (call : Caller) (ks : List Nat) (ops : List Oper) : ∀ (l : List Oper) (s : St), opsL P cfg fid call ks ops l s = opsBL P cfg fid call ks (slim ops l) s
  | [], s => rfl
  | o :: r, s => by
    simp only [opsL, slim, opsBL, stepA_slim]
    split
    · congr 1
      funext s'
      exact opsL_slim P cfg fid call ks ops r s'
    · rfl
theorem evC_region (P : Program) (cfg : Cfg) (fid : Nat) (call : Caller) (n : Nat) (s : St) (i : Nat) (ops : Array Oper) (draw : Bool) : evC P cfg fid call n (.region i ops draw) s = (match litOf cfg fid ops.toList with
    | some (d, t, len, parts, r) => (buildG P s d t len parts).bind fun s => opsB P cfg fid call (slim ops.toList r) s
    | none => if cfg.lazy fid i then if loadsOk s (cfg.loads fid i) then (ksB s (slim ops.toList ops.toList)).bind fun ks => if ks.all (fun k => decide (k < 400000)) then opsBL P cfg fid (holdC s (cfg.loads fid i) call) (ks ++ dynOf (cfg.loads fid i) ++ heldK s (cfg.loads fid i)) (slim ops.toList ops.toList) s else none else none else opsB P cfg fid call (slim ops.toList ops.toList) s).bind fun s => some (.normal, s) := by
  simp only [evC, Option.map_eq_bind, opsA_slim, ks_slim s ops.toList, opsL_slim]
  cases litOf cfg fid ops.toList with
  | none => rfl
  | some q => rfl
theorem opsBL_nil (P : Program) (cfg : Cfg) (fid : Nat) (call : Caller) (ks : List Nat) (s : St) : opsBL P cfg fid call ks [] s = some s := rfl
theorem opsBL_cons (P : Program) (cfg : Cfg) (fid : Nat) (call : Caller) (ks : List Nat) (d : Option Nat) (op : Op) (g : Gd) (r : List (Option Nat × Op × Gd)) (s : St) : opsBL P cfg fid call ks ((d, op, g) :: r) s = if lazyOp ks s op then (stepB P cfg fid call d op s g).bind fun s' => opsBL P cfg fid call ks r s' else none := rfl
theorem opsB_nil (P : Program) (cfg : Cfg) (fid : Nat) (call : Caller) (s : St) : opsB P cfg fid call [] s = some s := rfl
theorem opsB_cons (P : Program) (cfg : Cfg) (fid : Nat) (call : Caller) (d : Option Nat) (op : Op) (g : Gd) (r : List (Option Nat × Op × Gd)) (s : St) : opsB P cfg fid call ((d, op, g) :: r) s = (stepB P cfg fid call d op s g).bind fun s' => opsB P cfg fid call r s' := rfl
/-- What comes behind is not looked at before its turn. -/
@[congr] theorem bind_congr1 {α β : Type} {x x' : Option α} {f : α → Option β} (h : x = x') : x.bind f = x'.bind f := by rw [h]
attribute [simp] lk_nil lk_cons st_get st_put st_no st_bx st_tk st_gl st_ro st_it st_mk st_hav havL argsL initA_st gd mkO stepB slim evC_region opsB_nil opsB_cons opsBL_nil opsBL_cons ksB lazyOp loadsOk dynOf holdC heldK heldO keepC
attribute [simp] litOf buildG
attribute [simp] Option.bind_assoc bodyA opA calmA St.ev St.evs binA unA intOp shiftOp strOp endA resA expoCs packRes C.expo W.expo V.comp C.known W.known constV constC constW comps expos closes W.close callA C.cells
  St.loadC St.cellsAt pack cut paste W.move W.elems fillW chunk partsOf placesA repeatW byteD intOfV boundV sliceA indexAddrA indexA fieldA fieldAddrA lenA buildA buildSliceA extractA nilCheckA fnCaps St.storeW appendA look upd convA eqOp eqOp.eqB isNilW eqVal eqVal.go eqVal.goA constWs C.expoF expoFs W.count St.rowOf makeA copyA clearA appendG appendZ appendM lessA emptyA W.settle settles C.settle settleCs W.shut mapO V.hav C.hav W.hav firstId W.below C.below
@[simp] theorem eqbG_self (x : Option (List W)) : eqbG x x = true := eqbG_refl x
attribute [simp] rowW rowCells bareW orE orW
attribute [simp] W.lodge lodges iterA psL calmL V.calmed C.free W.free iterBack
end Go.Proofs.YtckonoejmjblfaaGreatDoor.Ev

/- Calls with one shared object, whatever else is shared. -/
set_option linter.unusedVariables false
set_option linter.unusedSimpArgs false
namespace Go.Proofs.YtckonoejmjblfaaGreatDoor.Ev
open Go Go.RowKit

/-- What holds of a body holds of its call. -/
theorem Evt.up {f : Nat} {fn : Func} (p : Nat → (List C → Nat → List (List W) → Option (V × List (List W))) → Prop) (hf : Tryz.prog.funcs[f]? = some fn) (hn : (fnOk cf f fn && (xtL.lookup f).isNone) = true)
    (h : Evt fun n => p n (fun args ro gl => bodyA Tryz.prog cf f (ev n) n fn args ro gl)) (mono : ∀ n g, p n g → p (n + 1) g) : Evt fun n => p n (fun args ro gl => ev n f args ro gl) := by
  obtain ⟨a, h⟩ := h
  refine ⟨a + 1, fun n hn' => ?_⟩
  obtain ⟨m, rfl⟩ : ∃ m, n = m + 1 := ⟨n - 1, by omega⟩
  simp only [Bool.and_eq_true] at hn
  have e : (fun args ro gl => ev (m + 1) f args ro gl) = fun args ro gl => bodyA Tryz.prog cf f (ev m) m fn args ro gl := by
    funext args ro gl
    rw [ev, evF_step (by simp only [xt, Option.map_eq_none_iff]; simpa using hn.2) hf hn.1]
  rw [e]
  exact mono m _ (h m (by omega))
/-- A call that only reads the object o, which holds cs. -/
def ReadsU (f : Nat) (args : Nat → List C) (cs : List W) (r : V) : Prop := Evt fun n => ∀ gl o ro, (gl : List (List W))[o]? = some cs → ev n f (args o) ro gl = some (r, gl)
/-- A call that writes the object o, which held cs and then holds cs'. -/
def DoesU (f : Nat) (args : Nat → List C) (cs : List W) (r : V) (cs' : List W) : Prop := Evt fun n => ∀ gl o ro, (gl : List (List W))[o]? = some cs → ro ≤ o → ev n f (args o) ro gl = some (r, gl.set o cs')
theorem ReadsU.intro {f : Nat} {fn : Func} {args : Nat → List C} {cs : List W} {r : V} (hf : Tryz.prog.funcs[f]? = some fn) (hn : (fnOk cf f fn && (xtL.lookup f).isNone) = true)
    (h : Evt fun n => ∀ gl o ro, (gl : List (List W))[o]? = some cs → bodyA Tryz.prog cf f (ev n) n fn (args o) ro gl = some (r, gl)) : ReadsU f args cs r :=
  Evt.up (fun _ g => ∀ gl o ro, (gl : List (List W))[o]? = some cs → g (args o) ro gl = some (r, gl)) hf hn h fun _ _ h => h
theorem DoesU.intro {f : Nat} {fn : Func} {args : Nat → List C} {cs cs' : List W} {r : V} (hf : Tryz.prog.funcs[f]? = some fn) (hn : (fnOk cf f fn && (xtL.lookup f).isNone) = true)
    (h : Evt fun n => ∀ gl o ro, (gl : List (List W))[o]? = some cs → ro ≤ o → bodyA Tryz.prog cf f (ev n) n fn (args o) ro gl = some (r, gl.set o cs')) : DoesU f args cs r cs' :=
  Evt.up (fun _ g => ∀ gl o ro, (gl : List (List W))[o]? = some cs → ro ≤ o → g (args o) ro gl = some (r, gl.set o cs')) hf hn h fun _ _ h => h
theorem ReadsU.does {f : Nat} {args : Nat → List C} {cs : List W} {r : V} (h : ReadsU f args cs r) : DoesU f args cs r cs := h.imp fun n h gl o ro hg hro => by rw [set_same hg]; exact h gl o ro hg
/-- A call that changes nothing, wherever G holds. -/
def ReadsG (G : List (List W) → W → Prop) (f : Nat) (args : W → List C) (r : V) : Prop := Evt fun n => ∀ gl x, G gl x → ∀ ro, ev n f (args x) ro gl = some (r, gl)
theorem ReadsG.intro {G : List (List W) → W → Prop} {f : Nat} {fn : Func} {args : W → List C} {r : V} (hf : Tryz.prog.funcs[f]? = some fn) (hn : (fnOk cf f fn && (xtL.lookup f).isNone) = true)
    (h : Evt fun n => ∀ gl x, G gl x → ∀ ro, bodyA Tryz.prog cf f (ev n) n fn (args x) ro gl = some (r, gl)) : ReadsG G f args r :=
  Evt.up (fun _ g => ∀ gl x, G gl x → ∀ ro, g (args x) ro gl = some (r, gl)) hf hn h fun _ _ h => h
theorem ReadsG.reads {G : List (List W) → W → Prop} {f : Nat} {args : W → List C} {r : V} (h : ReadsG G f args r) {gl : List (List W)} {x : W} (hg : G gl x) : Reads f (args x) gl r := h.imp fun _ h => h gl x hg
/-- Where the object holds cs. -/
def At (cs : List W) (gl : List (List W)) (x : W) : Prop := ∃ o, x = .glo o 0 ∧ gl[o]? = some cs
theorem ReadsG.u {cs : List W} {f : Nat} {args : W → List C} {r : V} (h : ReadsG (At cs) f args r) : ReadsU f (fun o => args (.glo o 0)) cs r := h.imp fun _ h gl o ro hg => h gl _ ⟨o, rfl, hg⟩ ro
theorem get_set {α : Type} {l : List α} {o : Nat} {a : α} (h : l[o]? = some a) (x : α) : (l.set o x)[o]? = some x := by
  have := (List.getElem?_eq_some_iff.1 h).1
  rw [List.getElem?_set, if_pos rfl, if_pos this]
/-- An object that has just been made. -/
theorem get_last {α : Type} (l : List α) (x : α) : (l ++ [x])[l.length]? = some x := by simp
@[simp] theorem set_last {α : Type} (l : List α) (x y : α) : (l ++ [x]).set l.length y = l ++ [y] := by simp
end Go.Proofs.YtckonoejmjblfaaGreatDoor.Ev

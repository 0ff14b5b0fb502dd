/- Layer 8: the theorem of acts' texts. -/
import Derived.Test.YtckonoejmjblfaaGreatDoorPkLaw8
import Derived.Test.YtckonoejmjblfaaGreatDoorPkSam
import Derived.Test.YtckonoejmjblfaaGreatDoorPkActA
import Derived.Test.YtckonoejmjblfaaGreatDoorPkTrnB
import Derived.Test.YtckonoejmjblfaaGreatDoorPkTrnD
import Derived.Test.YtckonoejmjblfaaGreatDoorPkTrnC
import Derived.Test.YtckonoejmjblfaaGreatDoorPkEvLM
import Derived.Handed
import Derived.ProofKit
import Derived.LaidMore
set_option linter.unusedVariables false
set_option linter.unusedSimpArgs false
set_option maxRecDepth 100000
set_option maxHeartbeats 4000000
namespace Go.Proofs.YtckonoejmjblfaaGreatDoor.Ev
open Go Go.RowKit

/-- Acts' text is read as them, to its end. -/
theorem putA_read {l : List Ac} (h0 : checkA l = 0) (hl : l ≠ []) : Ev.tkE (putA l) = 0 ∧ ∃ d : Cu, readA ⟨[], tkL (putA l), 0, 0, 0⟩ = (d, l) ∧ d.e = 0 ∧ d.next.kind = 0 := by
  obtain ⟨h8, hall⟩ := checkA_all h0
  obtain ⟨h, _⟩ := putA_sc l hl hall (s := []) (ws := []) (fun c r e => by cases e) .nil
  rw [List.append_nil, List.append_nil] at h
  have hpl := putA_len l hall
  have hwl := actsW_len l hall
  obtain ⟨t1, t2⟩ := h.tkL (by omega) (by omega) h.len
  have ha : Ahd (⟨[], tkL (putA l), 0, 0, 0⟩ : Cu) (actsW l ++ [(0, [])]) := ⟨rfl, t2⟩
  obtain ⟨d, d1, d2⟩ := readA_ahd h0 hl ha (fun w q e => by cases e; decide) (by simp) (Stp.no (by decide) 1 [])
  obtain ⟨e1, e2, _⟩ := d1.cons
  exact ⟨t1, d, d2, e1, e2⟩
theorem ActPuts_evL (l : List Ac) : Gives 8 [L (l.map Ac.c)] (V.bool true) := by
  have l1 := Light08_ev l
  have ha := awake08_ev
  cases hl1 : light8 l with
  | false =>
    rw [hl1] at l1
    refine .intro Tryz.func8 (by kernel_rfl) ((l1.and ha).imp fun k ⟨l1, ha⟩ ro gl => ?_)
    simp -implicitDefEqProofs [Tryz.f8, l1, ha]
  | true =>
    rw [hl1] at l1
    obtain ⟨n20, oks⟩ := light8_spec hl1
    have h1 := APut_ev l (by omega) fun a ha => (oks a ha).1
    have h2 := rACheck_ev l (by omega) fun a ha => (oks a ha).1
    have h3 := ACheck_ev l (by omega) fun a ha => (oks a ha).1
    by_cases h0 : checkA l = 0
    · obtain ⟨h8, hall⟩ := checkA_all h0
      have h6 := rAPut_ev l h8 hall
      rw [h0, if_pos rfl] at h1
      rw [h0] at h2 h3
      by_cases hn : l = []
      · subst hn
        refine .intro Tryz.func8 (by kernel_rfl) ((l1.and (ha.and (h1.and (h2.and (h3.and h6))))).imp fun k ⟨l1, ha, h1, h2, h3, h6⟩ ro gl => ?_)
        simp at l1 h1 h2 h3 h6
        simp -implicitDefEqProofs [Tryz.f8, l1, ha, h1, h2, h3, h6]
      · have hlp : ¬ l.length = 0 := by simpa using hn
        have hpl := putA_len l hall
        obtain ⟨p1, d, p2, p3, p4⟩ := putA_read h0 hn
        obtain ⟨p, q, hp⟩ := tokV_eq (putA l)
        have ht := Tokens_ev (putA l) (by omega)
        rw [hp, p1] at ht
        obtain ⟨k1, k2⟩ := tkL_ok (putA l)
        have hnw := New_ev (tkL (putA l))
        have hr := aread_ev k1 (by simp only; omega)
        have hok := (readA_ok k1).1
        rw [p2] at hr hok
        simp only at hr hok
        have h7 := rASame_ev l l (by omega) (by omega) (fun a ha => ⟨by have := (oks a ha).2; omega⟩) fun a ha => ⟨by have := (oks a ha).2; omega⟩
        rw [decide_eq_true rfl] at h7
        have hg := good_c (c := d)
        have hx := next_c hok
        generalize hc : (⟨[], tkL (putA l), 0, 0, 0⟩ : Cu) = c0 at hr
        have ec : c0.w = cW [] (tkL (putA l)) 0 0 0 := by rw [← hc]; rfl
        rw [← ec] at hnw
        clear hp p1 hpl k1 k2 p2 hok ec hc hl1
        generalize putA l = s at h1 h6 ht hnw
        generalize tkL s = tl at ht hnw
        refine .intro Tryz.func8 (by kernel_rfl) ((l1.and (ha.and (h1.and (h2.and (h3.and (h6.and (h7.and (ht.and (hnw.and (hr.and (hg.and hx))))))))))).imp fun k ⟨l1, ha, h1, h2, h3, h6, h7, ht, hnw, hr, hg, hx⟩ ro gl => ?_)
        have hr := fun ro hro => hr (gl ++ [c0.w]) gl.length ro (get_last _ _) hro
        have hg := fun ro => hg (gl ++ [d.w]) gl.length ro (get_last _ _)
        have hx := fun ro => hx (gl ++ [d.w]) gl.length ro (get_last _ _)
        simp only [set_last] at hr
        generalize c0.w = w0 at hnw hr
        generalize d.w = w1 at hr hg hx
        simp [Tk.w, p3, p4] at l1 h1 h2 h3 h6 h7 hr hg hx
        simp -implicitDefEqProofs [Tryz.f8, l1, ha, h1, h2, h3, h6, h7, ht, hnw, hr, hg, hx, hn, hlp]
    · rw [if_neg h0] at h1
      generalize checkA l = e at h0 h1 h2 h3
      refine .intro Tryz.func8 (by kernel_rfl) ((l1.and (ha.and (h1.and (h2.and h3)))).imp fun k ⟨l1, ha, h1, h2, h3⟩ ro gl => ?_)
      simp -implicitDefEqProofs [Tryz.f8, l1, ha, h1, h2, h3, h0]
theorem ActPuts_ev (c0 : C) (h0 : ArgOf Tryz.prog 9 39 c0) : Gives 8 [c0] (V.bool true) := by
  obtain ⟨l, rfl⟩ := arg_acs h0
  exact ActPuts_evL l
end Go.Proofs.YtckonoejmjblfaaGreatDoor.Ev

/- A law's row that lists package-level variables: the frame. -/
set_option linter.unusedVariables false
set_option maxRecDepth 100000
namespace Go.Proofs.YtckonoejmjblfaaGreatDoor.Ev
open Go Go.RowKit Go.ChangeShapes Go.WideShapes Go.ChangeAt

theorem lifted_and {C : Checked} {cfg : Cfg} {ext : Nat → Option Caller} {f K : Nat} {fn : Func} {spec : ChangeSpec} {dom : List PathCond} {X : World → Array Value → Prop} (hX : ∀ (w w' : World) (args : Array Value), w.heap = w'.heap → X w args → X w' args) (hm : Base C.prog cfg)
    (hx : ∀ f g, ext f = some g → Sound C.prog False (fun f' => if f' = f then g f' else fun _ _ _ => none)) (own : ownKnob C.prog.godebug = none) (hl : laidOutB C.prog = true) (hfn : C.prog.funcs[f]? = some fn) (hxf : ext f = none) (hin : C.prog.inits.idxOf? f = none)
    (hvars : spec.vars = []) (hspec : ∀ (H : Type) (ds : List (DataW H)), ds.length = fn.params.size → (spec.fn H ds).results = [.lit (.bool true)] ∧ (spec.fn H ds).args = ds ∧ (spec.fn H ds).vars = [])
    {tb : TypeId} (hres : fn.resultTypes = #[tb]) (htb : C.prog.underlying tb = some .bool) (hread : (fn.params.toList.all fun t => C.prog.readableRec t && decide (t < C.prog.types.size)) = true) (hplain : (fn.params.toList.all fun t => plainT C.prog K t) = true)
    (hev : ∀ args, All2 (ArgOf C.prog K) fn.params.toList args → ∃ n gl, evF C.prog cfg ext n f args 0 [] = some (V.bool true, gl))
    (os : Os) (started : os.Started) (H : Type) (enc : TypeId × Value → H)
    (hwit : ∃ (w : World) (tape : Tape) (i : Input), w.os = os ∧ (w.forCall tape i).Shaped C.prog ∧ i.vars = [] ∧ Input.okWide C.prog (w.forCall tape i) .any w.heap.size f i ∧
      ((spec.pre enc C.prog fn dom false (w.forCall tape i).memory i.args ∧ X (w.forCall tape i).memory i.args) ∧ sizedMet enc C.prog fn (OpenSpec.ofChange spec) false (w.forCall tape i).memory i.args) ∧ ({} : Assume).holds C.prog (lone (Frame.enter C.prog f i.args .normal) [] (w.forCall tape i))) :
    ReturnsInHanded {} C os f .any (fun w args => (spec.pre enc C.prog fn dom false w args ∧ X w args) ∧ sizedMet enc C.prog fn (OpenSpec.ofChange spec) false w args) (spec.post enc C.prog fn false true false false) := by
  refine returnsInHanded_of_change_and (C := C) (X := X) hX own started hin hfn hwit ?_
  intro W base args ds gs before hval hW hcnd _ _ _
  have hW' := hW
  obtain ⟨p, q, hA, hV, rfl, hfz, hnd⟩ := hW
  rw [hvars] at hV
  obtain ⟨rfl, rfl⟩ := trodVars_none hV
  obtain ⟨cs, k1, k2⟩ := args_of hA hplain (base := base) (fun j t v ht hv => hval j t v (by simpa using ht) (by simpa using hv))
  obtain ⟨n, gl, he⟩ := hev cs k1
  have hc := law_calls hm hx hxf k2 he
  have hargs : args.toList.toArray = args := by simp
  rw [hargs] at hc
  refine hc.mono ?_
  rintro e w' ⟨Γ', v, rfl, hb, hv⟩
  cases hv
  have hlen : ds.length = fn.params.size := by
    have : ∀ {ts : List TypeId} {vs : List Value} {ds : List (DataW H)} {ps : List MemPlace}, DataW.TrodAll enc C.prog W 0 (fun _ => true) true ts vs ds ps → ds.length = ts.length := by
      intro ts
      induction ts with
      | nil => intro vs ds ps h; obtain ⟨_, rfl, _⟩ := trodAll_nil h; rfl
      | cons t ts ih => intro vs ds ps h; obtain ⟨_, _, _, _, _, _, _, rfl, _, _, h2⟩ := trodAll_cons h; simp [ih h2]
    simpa using this hA
  obtain ⟨s1, s2, s3⟩ := hspec H ds hlen
  refine ⟨_, rfl, ds, [], _, [], p, [], hW', ?_, ?_, ?_, hb.frame _, fun h => by cases h⟩
  · rw [List.append_nil, s1, hres]
    exact trodAll_mk1 (shut_bool htb _)
  · rw [List.append_nil, s2]
    exact trodAll_below hl hb hread hA
  · rw [List.append_nil, s3, hvars]
    rfl
end Go.Proofs.YtckonoejmjblfaaGreatDoor.Ev

/- Layer 2: names. -/
import Derived.Test.YtckonoejmjblfaaGreatDoorPkEvOR
import Derived.Laws.RangeAny
set_option linter.unusedVariables false
set_option linter.unusedSimpArgs false
set_option maxRecDepth 100000
set_option maxHeartbeats 2000000
namespace Go.Proofs.YtckonoejmjblfaaGreatDoor.Ev
open Go Go.RowKit

def kws : List (List UInt8) := [[99, 104, 97, 114, 116], [101, 118, 101, 110, 116], [118, 97, 114], [108, 101, 97, 102], [111, 114], [97, 110, 100], [101, 110, 116, 101, 114], [101, 120, 105, 116], [111, 110], [97, 117, 116, 111],
  [97, 110, 121], [105, 110], [109, 105, 110], [109, 97, 120], [110, 111, 116], [116, 114, 117, 101], [102, 97, 108, 115, 101]]
theorem Keyword_ev (s : List UInt8) : Gives 98 [T s] (V.bool (decide (s ∈ kws))) := by
  refine .intro Tryz.func98 (by kernel_rfl) (.of fun k ro gl => ?_)
  by_cases h : s ∈ kws
  · simp only [h, decide_true]
    simp only [kws, List.mem_cons, List.not_mem_nil, or_false] at h
    rcases h with rfl | rfl | rfl | rfl | rfl | rfl | rfl | rfl | rfl | rfl | rfl | rfl | rfl | rfl | rfl | rfl | rfl <;>
      simp -implicitDefEqProofs [Tryz.f98]
  · simp only [h, decide_false]
    simp only [kws, List.mem_cons, List.not_mem_nil, or_false, not_or] at h
    obtain ⟨h1, h2, h3, h4, h5, h6, h7, h8, h9, h10, h11, h12, h13, h14, h15, h16, h17⟩ := h
    simp -implicitDefEqProofs [Tryz.f98, h1, h2, h3, h4, h5, h6, h7, h8, h9, h10, h11, h12, h13, h14, h15, h16, h17]

def lowB (c : UInt8) : Bool := decide (97 ≤ c.toNat ∧ c.toNat ≤ 122)
def othB (c : UInt8) : Bool := decide (48 ≤ c.toNat ∧ c.toNat ≤ 57 ∨ c.toNat = 95)
def nmL : Bool → List UInt8 → Bool
  | _, [] => true
  | first, c :: r => (lowB c || (!first && othB c)) && nmL false r
def isName (s : List UInt8) : Bool := decide (1 ≤ s.length ∧ s.length ≤ 12) && !decide (s ∈ kws) && nmL true s

end Go.Proofs.YtckonoejmjblfaaGreatDoor.Ev

/- Layer 2: names, as the program reads them. -/
set_option linter.unusedVariables false
set_option linter.unusedSimpArgs false
set_option maxRecDepth 100000
set_option maxHeartbeats 2000000
namespace Go.Proofs.YtckonoejmjblfaaGreatDoor.Ev
open Go Go.RowKit

def isS (s : List UInt8) (i : Nat) (gl : List (List W)) (ro : Nat) : St := st 50 [(19, .c (.w (.box 19 0)))] [] [] gl ro [(19, (s, i))]
def okQ (first : Bool) (q : Nat) : Bool := decide (97 ≤ q ∧ q ≤ 122) || (!first && decide (48 ≤ q ∧ q ≤ 57 ∨ q = 95))
theorem is_on (call : Caller) (N : Nat) (gl : List (List W)) (ro : Nat) (s : List UInt8) (i q w : Nat) (hi : i < s.length) (hd : Utf8.decode ⟨s.toArray⟩ i = (q, w)) (ho : okQ (decide (i = 0)) q = true) :
    (evC Tryz.prog cf 46 call N (bodyOf Tryz.f46 0) (isS s i gl ro)).map (hv [19]) = some (.normal, isS s (i + w) gl ro) := by
  simp only [okQ, Bool.or_eq_true, Bool.and_eq_true, Bool.not_eq_true', decide_eq_true_eq, decide_eq_false_iff_not] at ho
  rcases ho with ⟨h1, h2⟩ | ⟨h0, h⟩
  · have a1 : (97 : Int) ≤ q := by omega
    have a2 : (q : Int) ≤ 122 := by omega
    have a3 : (48 : Int) ≤ q := by omega
    have a4 : ¬ (q : Int) ≤ 57 := by omega
    have a5 : ¬ (q : Int) = 95 := by omega
    simp -implicitDefEqProofs [isS, bodyOf, loopsOf, hv, Tryz.f46, hi, hd, a1, a2, a3, a4, a5]
  · have b0 : ¬ i = 0 := by omega
    rcases h with ⟨h1, h2⟩ | h
    · have a1 : ¬ (97 : Int) ≤ q := by omega
      have a3 : (48 : Int) ≤ q := by omega
      have a4 : (q : Int) ≤ 57 := by omega
      have a5 : ¬ (q : Int) = 95 := by omega
      simp -implicitDefEqProofs [isS, bodyOf, loopsOf, hv, Tryz.f46, hi, hd, a1, a3, a4, a5, b0]
    · subst h
      simp -implicitDefEqProofs [isS, bodyOf, loopsOf, hv, Tryz.f46, hi, hd, b0]
theorem is_bad (call : Caller) (N : Nat) (gl : List (List W)) (ro : Nat) (s : List UInt8) (i q w : Nat) (hi : i < s.length) (hd : Utf8.decode ⟨s.toArray⟩ i = (q, w)) (ho : okQ (decide (i = 0)) q = false) :
    (evC Tryz.prog cf 46 call N (bodyOf Tryz.f46 0) (isS s i gl ro)).map (hv [2]) = some (.ret, st 50 [(2, V.bool false)] [] [] gl ro) := by
  have key : (q < 48 ∧ q ≠ 95) ∨ (48 ≤ q ∧ q ≤ 57 ∧ i = 0) ∨ (57 < q ∧ q < 97 ∧ q ≠ 95) ∨ (q = 95 ∧ i = 0) ∨ 122 < q := by
    simp [okQ] at ho
    omega
  rcases key with h | h | h | h | h
  · have a1 : ¬ (97 : Int) ≤ q := by omega
    have a3 : ¬ (48 : Int) ≤ q := by omega
    have a5 : ¬ (q : Int) = 95 := by omega
    by_cases b0 : i = 0
    · subst b0
      simp -implicitDefEqProofs [isS, bodyOf, loopsOf, hv, Tryz.f46, hi, hd, a1, a3, a5]
    · simp -implicitDefEqProofs [isS, bodyOf, loopsOf, hv, Tryz.f46, hi, hd, a1, a3, a5, b0]
  · obtain ⟨h1, h2, rfl⟩ := h
    have a1 : ¬ (97 : Int) ≤ q := by omega
    have a3 : (48 : Int) ≤ q := by omega
    have a4 : (q : Int) ≤ 57 := by omega
    have a5 : ¬ (q : Int) = 95 := by omega
    simp -implicitDefEqProofs [isS, bodyOf, loopsOf, hv, Tryz.f46, hi, hd, a1, a3, a4, a5]
  · have a1 : ¬ (97 : Int) ≤ q := by omega
    have a3 : (48 : Int) ≤ q := by omega
    have a4 : ¬ (q : Int) ≤ 57 := by omega
    have a5 : ¬ (q : Int) = 95 := by omega
    by_cases b0 : i = 0
    · subst b0
      simp -implicitDefEqProofs [isS, bodyOf, loopsOf, hv, Tryz.f46, hi, hd, a1, a3, a4, a5]
    · simp -implicitDefEqProofs [isS, bodyOf, loopsOf, hv, Tryz.f46, hi, hd, a1, a3, a4, a5, b0]
  · obtain ⟨rfl, rfl⟩ := h
    simp -implicitDefEqProofs [isS, bodyOf, loopsOf, hv, Tryz.f46, hi, hd]
  · have a1 : (97 : Int) ≤ q := by omega
    have a2 : ¬ (q : Int) ≤ 122 := by omega
    have a3 : (48 : Int) ≤ q := by omega
    have a4 : ¬ (q : Int) ≤ 57 := by omega
    have a5 : ¬ (q : Int) = 95 := by omega
    by_cases b0 : i = 0
    · subst b0
      simp -implicitDefEqProofs [isS, bodyOf, loopsOf, hv, Tryz.f46, hi, hd, a1, a2, a3, a4, a5]
    · simp -implicitDefEqProofs [isS, bodyOf, loopsOf, hv, Tryz.f46, hi, hd, a1, a2, a3, a4, a5, b0]
theorem is_end (call : Caller) (N : Nat) (gl : List (List W)) (ro : Nat) (s : List UInt8) :
    (evC Tryz.prog cf 46 call N (bodyOf Tryz.f46 0) (isS s s.length gl ro)).map (hv [19]) = some (.exit 0, isS s s.length gl ro) := by
  simp -implicitDefEqProofs [isS, bodyOf, loopsOf, hv, Tryz.f46]
theorem dec_mid (p r : List UInt8) (c : UInt8) : (c.toNat < 128 ∧ Utf8.decode ⟨(p ++ c :: r).toArray⟩ p.length = (c.toNat, 1)) ∨ (128 ≤ c.toNat ∧ 128 ≤ (Utf8.decode ⟨(p ++ c :: r).toArray⟩ p.length).1) := by
  have h : p.length < (⟨(p ++ c :: r).toArray⟩ : ByteArray).size := by simp
  have e : ((⟨(p ++ c :: r).toArray⟩ : ByteArray)[p.length]'h) = c := by
    show (p ++ c :: r).toArray[p.length]'_ = c
    simp
  rcases Nat.lt_or_ge c.toNat 128 with hc | hc
  · refine .inl ⟨hc, ?_⟩
    have := decode_ascii ⟨(p ++ c :: r).toArray⟩ p.length h (by rw [e]; exact hc)
    rw [this, e]
  · exact .inr ⟨hc, (decode_high ⟨(p ++ c :: r).toArray⟩ p.length h (by rw [e]; exact hc)).1⟩
theorem is_loop (call : Caller) (N : Nat) (gl : List (List W)) (ro : Nat) (s : List UInt8) (n : Nat) (hn : s.length < n) (S : St) (hS : S.hav [19] = isS s 0 gl ro) :
    loopA (evC Tryz.prog cf 46 call N (bodyOf Tryz.f46 0)) [19] [2] n S = some (if nmL true s then (.exit 0, isS s s.length gl ro) else (.ret, st 50 [(2, V.bool false)] [] [] gl ro)) := by
  refine loop_by (fun a : List UInt8 × List UInt8 => isS s a.1.length gl ro) (fun a => s = a.1 ++ a.2) (fun a => a.2.length) (fun a => if nmL a.1.isEmpty a.2 then (.exit 0, isS s s.length gl ro) else (.ret, st 50 [(2, V.bool false)] [] [] gl ro)) ?_ n ([], s) S rfl hn hS
  rintro ⟨p, r⟩ hs
  simp only at hs
  cases r with
  | nil =>
    obtain rfl : s = p := by simpa using hs
    exact .inr (.inl ⟨0, _, is_end call N gl ro s, by simp [nmL]⟩)
  | cons c r =>
    have hi : p.length < s.length := by rw [hs]; simp
    have hlow : ∀ b, okQ b c.toNat = (lowB c || (!b && othB c)) := fun b => rfl
    have hemp : p.isEmpty = decide (p.length = 0) := by cases p <;> simp
    rcases dec_mid p r c with ⟨hc, hd⟩ | ⟨hc, hd⟩
    · rw [← hs] at hd
      cases ho : okQ (decide (p.length = 0)) c.toNat with
      | true =>
        refine .inl ⟨(p ++ [c], r), by simp [hs], by simp, ?_, ?_⟩
        · have := is_on call N gl ro s p.length _ _ hi hd ho
          simpa using this
        · show (if nmL p.isEmpty (c :: r) = true then _ else _) = (if nmL (p ++ [c]).isEmpty r = true then _ else _)
          rw [show (p ++ [c]).isEmpty = false by simp, show nmL p.isEmpty (c :: r) = nmL false r by rw [nmL, hemp, ← hlow, ho, Bool.true_and]]
      | false =>
        refine .inr (.inr ⟨_, is_bad call N gl ro s p.length _ _ hi hd ho, ?_⟩)
        show (if nmL p.isEmpty (c :: r) = true then _ else _) = _
        rw [show nmL p.isEmpty (c :: r) = false by rw [nmL, hemp, ← hlow, ho, Bool.false_and]]
        rfl
    · rw [← hs] at hd
      have ho : ∀ b q, 128 ≤ q → okQ b q = false := by
        intro b q hq
        simp [okQ]
        omega
      refine .inr (.inr ⟨_, is_bad call N gl ro s p.length _ _ hi rfl (ho _ _ hd), ?_⟩)
      show (if nmL p.isEmpty (c :: r) = true then _ else _) = _
      rw [show nmL p.isEmpty (c :: r) = false by rw [nmL, ← hlow, ho _ _ hc, Bool.false_and]]
      rfl
theorem nIs_all (s : List UInt8) (hs : s.length ≤ 9223372036854775807) : Gives 46 [T s] (V.bool (isName s)) := by
  refine .intro Tryz.func46 (by kernel_rfl) ((Keyword_ev s).and (Evt.ge (s.length + 1)) |>.imp fun k ⟨h1, hk⟩ ro gl => ?_)
  have hl : s.length ≤ 9223372036854775807 := by omega
  unfold isName
  by_cases c1 : s = []
  · subst c1
    simp -implicitDefEqProofs [Tryz.f46]
  · have c1' : 1 ≤ s.length := by cases s <;> simp at c1 ⊢
    by_cases c2 : 12 < s.length
    · have c2' : (12 : Int) < s.length := by omega
      have c2'' : ¬ s.length ≤ 12 := by omega
      simp -implicitDefEqProofs [Tryz.f46, c1, c2', c2'']
    · have c2' : ¬ (12 : Int) < s.length := by omega
      have c2'' : s.length ≤ 12 := by omega
      by_cases c3 : s ∈ kws
      · simp -implicitDefEqProofs [Tryz.f46, c1, c2', c2'', h1, c3, hl]
      · have tail : ∀ S : St, S.hav [19] = isS s 0 gl gl.length → loopC Tryz.prog cf 46 (ev k) k (bodyOf Tryz.f46 0) S = _ := fun S hS => is_loop (ev k) k gl gl.length s k (by omega) S hS
        simp -implicitDefEqProofs [Tryz.f46, c1, c2', c2'', h1, c3, hl]
        refine bind_go (tail _ ?_) ?_
        · simp [isS]
        · cases nmL true s <;> simp [isS, c1', c2'', c3]
theorem nIs_ev (s : List UInt8) (hs : s.length < 4611686018427387904) : Gives 46 [T s] (V.bool (isName s)) := nIs_all s (by omega)
end Go.Proofs.YtckonoejmjblfaaGreatDoor.Ev

/- Layer 2: names, as the document reads them. -/
set_option linter.unusedVariables false
set_option linter.unusedSimpArgs false
set_option maxRecDepth 100000
set_option maxHeartbeats 2000000
namespace Go.Proofs.YtckonoejmjblfaaGreatDoor.Ev
open Go Go.RowKit

abbrev sD (x : List UInt8) : List D := [.str x]
def place : List (List UInt8) → List UInt8 → Nat → Int
  | [], _, _ => -1
  | x :: r, s, i => if x = s then i else place r s (i + 1)
theorem place_ge : ∀ (l : List (List UInt8)) (s : List UInt8) (i : Nat), (0 ≤ place l s i) ↔ s ∈ l
  | [], s, i => by simp [place]
  | x :: r, s, i => by
    simp only [place]
    by_cases h : x = s
    · simp [h]
    · rw [if_neg h, place_ge r s (i + 1)]
      simp [Ne.symm h]
def plS (l : List (List UInt8)) (s : List UInt8) (i : Nat) (gl : List (List W)) (ro : Nat) : St := st 19 [(0, .c (L (l.map sD))), (1, .c (T s)), (5, .c (I i))] [] [] gl ro
theorem pl_loop (call : Caller) (N : Nat) (gl : List (List W)) (ro : Nat) (l : List (List UInt8)) (s : List UInt8) (hl : l.length < 4611686018427387904) (n : Nat) (hn : l.length < n) (S : St) (hS : S.hav [0, 1, 5] = plS l s 0 gl ro) :
    loopA (evC Tryz.prog cf 85 call N (bodyOf Tryz.f85 0)) [0, 1, 5] [4] n S = some (if s ∈ l then (.ret, st 19 [(4, .c (I (place l s 0)))] [] [] gl ro) else (.exit 0, plS l s l.length gl ro)) := by
  refine loop_by (fun a : List (List UInt8) × List (List UInt8) => plS l s a.1.length gl ro) (fun a => l = a.1 ++ a.2) (fun a => a.2.length) (fun a => if s ∈ a.2 then (.ret, st 19 [(4, .c (I (place a.2 s a.1.length)))] [] [] gl ro) else (.exit 0, plS l s l.length gl ro)) ?_ n ([], l) S rfl hn hS
  rintro ⟨p, r⟩ hs
  simp only at hs
  cases r with
  | nil =>
    obtain rfl : l = p := by simpa using hs
    refine .inr (.inl ⟨0, plS l s l.length gl ro, ?_, by simp⟩)
    simp -implicitDefEqProofs [plS, bodyOf, loopsOf, hv, Tryz.f85]
  | cons c r =>
    have hlt : (p.length : Int) < p.length + (r.length + 1) := by omega
    have hp : p.length < 4611686018427387904 := by rw [hs] at hl; simp at hl; omega
    have w : IntKind.i64.wrap ((p.length : Int) + 1) = (p.length : Int) + 1 := i64w _ (by omega)
    by_cases h : c = s
    · refine .inr (.inr ⟨st 19 [(4, .c (I p.length))] [] [] gl ro, ?_, by simp [h, place]⟩)
      subst hs
      simp -implicitDefEqProofs [plS, bodyOf, loopsOf, hv, Tryz.f85, hlt, h]
    · refine .inl ⟨(p ++ [c], r), by simp [hs], by simp, ?_, ?_⟩
      · subst hs
        simp -implicitDefEqProofs [plS, bodyOf, loopsOf, hv, Tryz.f85, hlt, h, w]
      · simp [place, h, Ne.symm h]
theorem rPlace_ev (l : List (List UInt8)) (s : List UInt8) (hl : l.length < 4611686018427387904) : Gives 85 [L (l.map sD), T s] (.c (I (place l s 0))) := by
  refine .intro Tryz.func85 (by kernel_rfl) (Evt.ge (l.length + 1) |>.imp fun k hk ro gl => ?_)
  have tail : ∀ S : St, S.hav [0, 1, 5] = plS l s 0 gl gl.length → loopC Tryz.prog cf 85 (ev k) k (bodyOf Tryz.f85 0) S = _ := fun S hS => pl_loop (ev k) k gl gl.length l s hl k (by omega) S hS
  simp -implicitDefEqProofs [Tryz.f85]
  refine bind_go (tail _ ?_) ?_
  · simp [plS]
  · by_cases h : s ∈ l
    · simp [h]
    · have e : ∀ (l : List (List UInt8)) (i : Nat), ¬ s ∈ l → place l s i = -1 := by
        intro l
        induction l with
        | nil => intro i _; rfl
        | cons x r ih =>
          intro i h
          simp only [List.mem_cons, not_or] at h
          rw [place, if_neg (Ne.symm h.1), ih _ h.2]
      simp [h, plS, e l 0 h]
theorem Keywords_ev : Gives 95 [] (.c (L (kws.map sD))) := by
  refine .intro Tryz.func95 (by kernel_rfl) (.of fun k ro gl => ?_)
  simp -implicitDefEqProofs [Tryz.f95, kws]
def riS (s : List UInt8) (i : Nat) (gl : List (List W)) (ro : Nat) : St := st 49 [(0, .c (T s)), (3, .c (I i))] [] [] gl ro
theorem ri_on (call : Caller) (N : Nat) (gl : List (List W)) (ro : Nat) (p r : List UInt8) (c : UInt8) (hp : p.length < 4611686018427387904) (ho : okQ (decide (p.length = 0)) c.toNat = true) :
    (evC Tryz.prog cf 42 call N (bodyOf Tryz.f42 0) (riS (p ++ c :: r) p.length gl ro)).map (hv [0, 3]) = some (.normal, riS (p ++ c :: r) (p.length + 1) gl ro) := by
  have hlt : (p.length : Int) < p.length + (r.length + 1) := by omega
  have w : IntKind.i64.wrap ((p.length : Int) + 1) = (p.length : Int) + 1 := i64w _ (by omega)
  have wc : IntKind.i64.wrap (c.toNat : Int) = (c.toNat : Int) := i64w _ (by have := c.toNat_lt; omega)
  simp only [okQ, Bool.or_eq_true, Bool.and_eq_true, Bool.not_eq_true', decide_eq_true_eq, decide_eq_false_iff_not] at ho
  rcases ho with ⟨h1, h2⟩ | ⟨h0, h⟩
  · have a1 : (97 : Int) ≤ c.toNat := by omega
    have a2 : (c.toNat : Int) ≤ 122 := by omega
    simp -implicitDefEqProofs [riS, bodyOf, loopsOf, hv, Tryz.f42, hlt, w, wc, a1, a2]
  · have b0 : ¬ p = [] := by simpa using h0
    have a1 : ¬ (97 : Int) ≤ c.toNat := by omega
    rcases h with ⟨h1, h2⟩ | h
    · have a3 : ¬ (c.toNat : Int) < 48 := by omega
      have a4 : ¬ (57 : Int) < c.toNat := by omega
      have a5 : ¬ (c.toNat : Int) = 95 := by omega
      simp -implicitDefEqProofs [riS, bodyOf, loopsOf, hv, Tryz.f42, hlt, w, wc, a1, a3, a4, a5, b0]
    · have a5 : (c.toNat : Int) = 95 := by omega
      simp -implicitDefEqProofs [riS, bodyOf, loopsOf, hv, Tryz.f42, hlt, w, wc, a1, a5, b0]
theorem ri_bad (call : Caller) (N : Nat) (gl : List (List W)) (ro : Nat) (p r : List UInt8) (c : UInt8) (hp : p.length < 4611686018427387904) (ho : okQ (decide (p.length = 0)) c.toNat = false) :
    (evC Tryz.prog cf 42 call N (bodyOf Tryz.f42 0) (riS (p ++ c :: r) p.length gl ro)).map (hv [2]) = some (.ret, st 49 [(2, V.bool false)] [] [] gl ro) := by
  have hlt : (p.length : Int) < p.length + (r.length + 1) := by omega
  have wc : IntKind.i64.wrap (c.toNat : Int) = (c.toNat : Int) := i64w _ (by have := c.toNat_lt; omega)
  by_cases b0 : p = []
  · subst b0
    have key : ¬ 97 ≤ c.toNat ∨ ¬ c.toNat ≤ 122 := by
      simp [okQ] at ho
      omega
    have hlt' : (0 : Int) < r.length + 1 := by omega
    by_cases h1 : 97 ≤ c.toNat
    · have a1 : (97 : Int) ≤ c.toNat := by omega
      have a2 : ¬ (c.toNat : Int) ≤ 122 := by omega
      simp -implicitDefEqProofs [riS, bodyOf, loopsOf, hv, Tryz.f42, hlt', wc, a1, a2]
    · have a1 : ¬ (97 : Int) ≤ c.toNat := by omega
      simp -implicitDefEqProofs [riS, bodyOf, loopsOf, hv, Tryz.f42, hlt', wc, a1]
  · have b1 : ¬ p.length = 0 := by simpa using b0
    have key : c.toNat < 48 ∨ (57 < c.toNat ∧ c.toNat < 97 ∧ c.toNat ≠ 95) ∨ 122 < c.toNat := by
      simp [okQ, b0] at ho
      omega
    have a5 : ¬ (c.toNat : Int) = 95 := by omega
    rcases key with h | h | h
    · have a1 : ¬ (97 : Int) ≤ c.toNat := by omega
      have a3 : (c.toNat : Int) < 48 := by omega
      simp -implicitDefEqProofs [riS, bodyOf, loopsOf, hv, Tryz.f42, hlt, wc, a1, a3, a5, b0]
    · have a1 : ¬ (97 : Int) ≤ c.toNat := by omega
      have a3 : ¬ (c.toNat : Int) < 48 := by omega
      have a4 : (57 : Int) < c.toNat := by omega
      simp -implicitDefEqProofs [riS, bodyOf, loopsOf, hv, Tryz.f42, hlt, wc, a1, a3, a4, a5, b0]
    · have a1 : (97 : Int) ≤ c.toNat := by omega
      have a2 : ¬ (c.toNat : Int) ≤ 122 := by omega
      have a3 : ¬ (c.toNat : Int) < 48 := by omega
      have a4 : (57 : Int) < c.toNat := by omega
      simp -implicitDefEqProofs [riS, bodyOf, loopsOf, hv, Tryz.f42, hlt, wc, a1, a2, a3, a4, a5, b0]
theorem ri_loop (call : Caller) (N : Nat) (gl : List (List W)) (ro : Nat) (s : List UInt8) (hl : s.length < 4611686018427387904) (n : Nat) (hn : s.length < n) (S : St) (hS : S.hav [0, 3] = riS s 0 gl ro) :
    loopA (evC Tryz.prog cf 42 call N (bodyOf Tryz.f42 0)) [0, 3] [2] n S = some (if nmL true s then (.exit 0, riS s s.length gl ro) else (.ret, st 49 [(2, V.bool false)] [] [] gl ro)) := by
  refine loop_by (fun a : List UInt8 × List UInt8 => riS s a.1.length gl ro) (fun a => s = a.1 ++ a.2) (fun a => a.2.length) (fun a => if nmL a.1.isEmpty a.2 then (.exit 0, riS s s.length gl ro) else (.ret, st 49 [(2, V.bool false)] [] [] gl ro)) ?_ n ([], s) S rfl hn hS
  rintro ⟨p, r⟩ hs
  simp only at hs
  cases r with
  | nil =>
    obtain rfl : s = p := by simpa using hs
    refine .inr (.inl ⟨0, riS s s.length gl ro, ?_, by simp [nmL]⟩)
    simp -implicitDefEqProofs [riS, bodyOf, loopsOf, hv, Tryz.f42]
  | cons c r =>
    have hp : p.length < 4611686018427387904 := by rw [hs] at hl; simp at hl; omega
    have hlow : ∀ b, okQ b c.toNat = (lowB c || (!b && othB c)) := fun b => rfl
    have hemp : p.isEmpty = decide (p.length = 0) := by cases p <;> simp
    cases ho : okQ (decide (p.length = 0)) c.toNat with
    | true =>
      refine .inl ⟨(p ++ [c], r), by simp [hs], by simp, ?_, ?_⟩
      · have := ri_on call N gl ro p r c hp ho
        rw [hs]
        simpa using this
      · show (if nmL p.isEmpty (c :: r) = true then _ else _) = (if nmL (p ++ [c]).isEmpty r = true then _ else _)
        rw [show (p ++ [c]).isEmpty = false by simp, show nmL p.isEmpty (c :: r) = nmL false r by rw [nmL, hemp, ← hlow, ho, Bool.true_and]]
    | false =>
      refine .inr (.inr ⟨_, by rw [hs]; exact ri_bad call N gl ro p r c hp ho, ?_⟩)
      show (if nmL p.isEmpty (c :: r) = true then _ else _) = _
      rw [show nmL p.isEmpty (c :: r) = false by rw [nmL, hemp, ← hlow, ho, Bool.false_and]]
      rfl
theorem rIs_all (s : List UInt8) (hs : s.length ≤ 9223372036854775807) : Gives 42 [T s] (V.bool (isName s)) := by
  refine .intro Tryz.func42 (by kernel_rfl) (Keywords_ev.and ((rPlace_ev kws s (by decide)).and (Evt.ge (s.length + 1))) |>.imp fun k ⟨h1, h2, hk⟩ ro gl => ?_)
  have hl : s.length ≤ 9223372036854775807 := by omega
  have h3 := place_ge kws s 0
  unfold isName
  by_cases c1 : (s.length : Int) < 1
  · have c1' : s = [] := by cases s with | nil => rfl | cons a l => simp at c1; omega
    subst c1'
    simp -implicitDefEqProofs [Tryz.f42]
  · have c1' : 1 ≤ s.length := by omega
    by_cases c2 : (12 : Int) < s.length
    · have c2'' : ¬ s.length ≤ 12 := by omega
      simp -implicitDefEqProofs [Tryz.f42, c1, c2, c2'']
    · have c2'' : s.length ≤ 12 := by omega
      by_cases c3 : s ∈ kws
      · rw [← h3] at c3
        simp -implicitDefEqProofs [Tryz.f42, c1, c2, c2'', h1, h2, c3, hl, h3.1 c3]
      · have c3' := c3
        rw [← h3] at c3'
        have tail : ∀ S : St, S.hav [0, 3] = riS s 0 gl gl.length → loopC Tryz.prog cf 42 (ev k) k (bodyOf Tryz.f42 0) S = _ := fun S hS => ri_loop (ev k) k gl gl.length s (by omega) k (by omega) S hS
        simp -implicitDefEqProofs [Tryz.f42, c1, c2, c2'', h1, h2, c3, c3', hl]
        refine bind_go (tail _ ?_) ?_
        · simp [riS]
        · cases nmL true s <;> simp [riS, c1', c2'', c3]
theorem rIs_ev (s : List UInt8) (hs : s.length < 4611686018427387904) : Gives 42 [T s] (V.bool (isName s)) := rIs_all s (by omega)
end Go.Proofs.YtckonoejmjblfaaGreatDoor.Ev

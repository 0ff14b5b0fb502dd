/- What a call comes to, with enough rounds; loops, arguments. -/
import Derived.Test.YtckonoejmjblfaaGreatFacts
import Derived.Test.YtckonoejmjblfaaGreatEvQ
set_option linter.unusedVariables false
namespace Go.Proofs.YtckonoejmjblfaaGreat.Ev
open Go Go.RowKit

/-- From some number on. -/
def Evt (p : Nat → Prop) : Prop := ∃ n0, ∀ n, n0 ≤ n → p n
theorem Evt.imp {p q : Nat → Prop} (h : Evt p) (k : ∀ n, p n → q n) : Evt q := by
  obtain ⟨a, h⟩ := h
  exact ⟨a, fun n hn => k n (h n hn)⟩
theorem Evt.and {p q : Nat → Prop} (h : Evt p) (k : Evt q) : Evt fun n => p n ∧ q n := by
  obtain ⟨a, h⟩ := h
  obtain ⟨b, k⟩ := k
  exact ⟨max a b, fun n hn => ⟨h n (by omega), k n (by omega)⟩⟩
theorem Evt.of {p : Nat → Prop} (h : ∀ n, p n) : Evt p := ⟨0, fun n _ => h n⟩
theorem Evt.ge (m : Nat) : Evt fun n => m ≤ n := ⟨m, fun _ h => h⟩
theorem Evt.all {α : Type} {p : α → Nat → Prop} : ∀ (l : List α), (∀ x ∈ l, Evt (p x)) → Evt fun n => ∀ x ∈ l, p x n
  | [], _ => ⟨0, fun n _ x hx => by simp at hx⟩
  | a :: l, h => ((h a (by simp)).and (Evt.all l fun x hx => h x (by simp [hx]))).imp fun n ⟨h1, h2⟩ x hx => by
    rcases List.mem_cons.1 hx with rfl | hx
    · exact h1
    · exact h2 x hx

/-- The configuration of this program. -/
def cfRo : Nat → Bool := fun f => [0, 1, 2, 3, 4, 7, 8, 9, 10, 11, 12, 13, 14, 18, 19, 20, 21, 22, 23, 24, 25, 26, 27, 29, 31, 32, 36, 38, 39, 40, 41, 42, 43, 44, 45, 46, 47, 48, 49, 50, 51, 52, 53, 54, 55, 56, 57, 58, 59, 61, 62, 63, 64, 65, 66, 67, 68, 69, 70, 71, 72, 76, 78, 79, 80, 81, 82, 83, 84, 85, 86, 87, 88, 89, 90, 91, 92, 93, 94, 95, 96, 97, 98, 99, 100, 101, 102, 103, 104, 107, 109, 110, 111, 112, 113, 114, 116, 117, 118, 119, 120, 121, 122, 123, 124, 125, 126, 127, 128, 129, 130, 131, 132, 133, 135, 136, 137, 138, 139, 140, 143, 144, 145, 146, 147, 148, 149, 150, 151, 152, 153, 154, 155, 156, 157, 158, 159, 160, 161, 162, 163].contains f
def cfEsc : Nat → Nat → Bool := fun f s => [(5, 5), (26, 2), (32, 8), (47, 3), (49, 7), (71, 3), (74, 1), (83, 9), (84, 11), (116, 3)].contains (f, s)
def cfFrz : Nat → Nat → Bool := fun f s => [(29, 2), (29, 3), (49, 3)].contains (f, s)
def cfLazy : Nat → Nat → Bool := fun f s => [(8, 3), (21, 3), (115, 9), (60, 6), (64, 29), (49, 8)].contains (f, s)
def cfLoads : Nat → Nat → List Nat := fun f r => ([((60, 6), [2]), ((49, 8), [100022])] : List ((Nat × Nat) × List Nat)).findSome? (fun p => if p.1 = (f, r) then some p.2 else none) |>.getD []
def cfFul : Nat → Bool := fun f => [108, 73].contains f
def cfMut : Nat → Nat → Bool := fun f s => [(72, 38), (75, 10), (12, 55)].contains (f, s)
def cfIter : Nat → List W → Option (Nat × List (List C)) := fun f cs => if f = 117 then iterBack 3 cs else none
def cf : Cfg := { iter := cfIter, ro := cfRo, esc := cfEsc, frz := cfFrz, lazy := cfLazy, loads := cfLoads, shr := cfMut, ful := cfFul, keep := fun f r => ([((72, 5), [0, 1, 5, 6]), ((3, 4), [0, 3]), ((6, 2), [0, 3, 18]), ((7, 3), [1, 2, 4, 5, 47]), ((9, 4), [0, 1, 5]), ((12, 15), [3, 9, 10, 12, 27, 28, 29, 42, 43, 44, 55]), ((12, 8), [3, 7, 27, 28, 29, 55]), ((13, 6), [5, 15, 16, 17, 28, 42]), ((24, 4), [0, 1, 5]), ((25, 4), [9, 10, 11]), ((27, 8), [1, 5, 7, 10, 44, 45, 59]), ((30, 9), [0, 3, 4, 5]), ((30, 4), [0, 3]), ((32, 22), [1, 8, 63, 64, 65]), ((32, 12), [0, 1, 5, 39, 40, 41]), ((40, 4), [0, 3]), ((42, 14), [1, 2, 4, 10, 11, 12, 13]), ((43, 4), [0, 5, 6, 7]), ((45, 2), [0, 1, 7, 8]), ((51, 2), [0, 1, 2, 3, 4, 10, 11]), ((53, 2), [0, 1, 9, 10, 11]), ((59, 4), [19]), ((60, 2), [1, 2, 5, 6]), ((62, 2), [0, 1, 5]), ((67, 4), [0, 1, 5, 6, 7, 24]), ((69, 3), [1, 5, 8, 9, 10, 22]), ((72, 9), [0, 1, 5, 6, 7, 26, 27, 28, 38]), ((81, 4), [0, 1, 2, 3, 8, 9]), ((81, 1), [0, 1, 2, 3, 8]), ((82, 8), [0, 3, 8, 9, 12]), ((82, 4), [0, 3, 8, 9, 10, 11]), ((83, 5), [0, 1, 8, 9, 10, 11]), ((85, 2), [0, 8, 9]), ((86, 20), [0, 1, 2, 3, 9, 10, 12]), ((86, 14), [0, 1, 2, 3, 9, 10, 11]), ((86, 5), [0, 1, 2, 3, 9, 10]), ((86, 3), [0, 1, 2, 3, 9, 10]), ((87, 5), [0, 1, 4, 11, 12]), ((87, 3), [0, 1, 4, 11, 12]), ((88, 15), [0, 1, 4, 12, 13]), ((88, 13), [0, 1, 4, 12, 13]), ((88, 5), [0, 1, 4, 12, 13]), ((88, 3), [0, 1, 4, 12, 13]), ((96, 5), [0, 1, 5, 6, 28]), ((106, 3), [3, 4]), ((107, 3), [5, 11, 12, 13, 19]), ((109, 5), [0, 3, 4]), ((112, 5), [0, 1, 5, 6]), ((113, 2), [0, 1, 7, 8]), ((115, 8), [7, 8]), ((117, 1), [0, 1, 3]), ((123, 1), [0, 2, 3, 4, 10]), ((129, 2), [0, 1, 5]), ((130, 2), [0, 1, 7, 8]), ((131, 3), [0, 3, 4]), ((135, 5), [0, 4, 5]), ((139, 2), [0, 1, 7, 8]), ((145, 2), [0, 1, 7, 8]), ((146, 5), [4, 5, 21, 22, 23])] : List ((Nat × Nat) × List Nat)).findSome? (fun p => if p.1 = (f, r) then some p.2 else none) |>.getD [], res := fun f => ([(3, [2]), (9, [4]), (12, [4, 5]), (24, [4]), (25, [2]), (30, [2]), (40, [2]), (45, [4]), (51, []), (53, [4]), (59, [2]), (62, [4]), (86, [8]), (106, [2]), (112, [4]), (113, [4]), (117, []), (123, []), (129, [4]), (130, [4]), (131, [2]), (135, [2, 3]), (139, [4]), (145, [4]), (146, [2, 3])] : List (Nat × List Nat)).findSome? (fun p => if p.1 = f then some p.2 else none) |>.getD [] }
@[simp] theorem cf_ro : cf.ro = cfRo := rfl
@[simp] theorem cf_esc : cf.esc = cfEsc := rfl
@[simp] theorem cf_frz : cf.frz = cfFrz := rfl
@[simp] theorem cf_loads : cf.loads = cfLoads := rfl
@[simp] theorem cf_lazy : cf.lazy = cfLazy := rfl
@[simp] theorem cf_ful : cf.ful = cfFul := rfl
@[simp] theorem cf_mut : cf.shr = cfMut := rfl
@[simp] theorem cf_iter : cf.iter = cfIter := rfl
@[simp] theorem cfRo_3 : cfRo 3 = true := rfl
@[simp] theorem cfRo_4 : cfRo 4 = true := rfl
@[simp] theorem cfRo_5 : cfRo 5 = false := rfl
@[simp] theorem cfRo_6 : cfRo 6 = false := rfl
@[simp] theorem cfRo_7 : cfRo 7 = true := rfl
@[simp] theorem cfRo_8 : cfRo 8 = true := rfl
@[simp] theorem cfRo_9 : cfRo 9 = true := rfl
@[simp] theorem cfRo_10 : cfRo 10 = true := rfl
@[simp] theorem cfRo_11 : cfRo 11 = true := rfl
@[simp] theorem cfRo_12 : cfRo 12 = true := rfl
@[simp] theorem cfRo_13 : cfRo 13 = true := rfl
@[simp] theorem cfRo_14 : cfRo 14 = true := rfl
@[simp] theorem cfRo_15 : cfRo 15 = false := rfl
@[simp] theorem cfRo_16 : cfRo 16 = false := rfl
@[simp] theorem cfRo_17 : cfRo 17 = false := rfl
@[simp] theorem cfRo_18 : cfRo 18 = true := rfl
@[simp] theorem cfRo_19 : cfRo 19 = true := rfl
@[simp] theorem cfRo_20 : cfRo 20 = true := rfl
@[simp] theorem cfRo_21 : cfRo 21 = true := rfl
@[simp] theorem cfRo_22 : cfRo 22 = true := rfl
@[simp] theorem cfRo_23 : cfRo 23 = true := rfl
@[simp] theorem cfRo_24 : cfRo 24 = true := rfl
@[simp] theorem cfRo_25 : cfRo 25 = true := rfl
@[simp] theorem cfRo_26 : cfRo 26 = true := rfl
@[simp] theorem cfRo_27 : cfRo 27 = true := rfl
@[simp] theorem cfRo_28 : cfRo 28 = false := rfl
@[simp] theorem cfRo_29 : cfRo 29 = true := rfl
@[simp] theorem cfRo_30 : cfRo 30 = false := rfl
@[simp] theorem cfRo_31 : cfRo 31 = true := rfl
@[simp] theorem cfRo_32 : cfRo 32 = true := rfl
@[simp] theorem cfRo_33 : cfRo 33 = false := rfl
@[simp] theorem cfRo_34 : cfRo 34 = false := rfl
@[simp] theorem cfRo_35 : cfRo 35 = false := rfl
@[simp] theorem cfRo_36 : cfRo 36 = true := rfl
@[simp] theorem cfRo_37 : cfRo 37 = false := rfl
@[simp] theorem cfRo_38 : cfRo 38 = true := rfl
@[simp] theorem cfRo_39 : cfRo 39 = true := rfl
@[simp] theorem cfRo_40 : cfRo 40 = true := rfl
@[simp] theorem cfRo_41 : cfRo 41 = true := rfl
@[simp] theorem cfRo_42 : cfRo 42 = true := rfl
@[simp] theorem cfRo_43 : cfRo 43 = true := rfl
@[simp] theorem cfRo_44 : cfRo 44 = true := rfl
@[simp] theorem cfRo_45 : cfRo 45 = true := rfl
@[simp] theorem cfRo_46 : cfRo 46 = true := rfl
@[simp] theorem cfRo_47 : cfRo 47 = true := rfl
@[simp] theorem cfRo_48 : cfRo 48 = true := rfl
@[simp] theorem cfRo_49 : cfRo 49 = true := rfl
@[simp] theorem cfRo_50 : cfRo 50 = true := rfl
@[simp] theorem cfRo_51 : cfRo 51 = true := rfl
@[simp] theorem cfRo_52 : cfRo 52 = true := rfl
@[simp] theorem cfRo_53 : cfRo 53 = true := rfl
@[simp] theorem cfRo_54 : cfRo 54 = true := rfl
@[simp] theorem cfRo_55 : cfRo 55 = true := rfl
@[simp] theorem cfRo_56 : cfRo 56 = true := rfl
@[simp] theorem cfRo_57 : cfRo 57 = true := rfl
@[simp] theorem cfRo_58 : cfRo 58 = true := rfl
@[simp] theorem cfRo_59 : cfRo 59 = true := rfl
@[simp] theorem cfRo_60 : cfRo 60 = false := rfl
@[simp] theorem cfRo_61 : cfRo 61 = true := rfl
@[simp] theorem cfRo_62 : cfRo 62 = true := rfl
@[simp] theorem cfRo_63 : cfRo 63 = true := rfl
@[simp] theorem cfRo_64 : cfRo 64 = true := rfl
@[simp] theorem cfRo_65 : cfRo 65 = true := rfl
@[simp] theorem cfRo_66 : cfRo 66 = true := rfl
@[simp] theorem cfRo_67 : cfRo 67 = true := rfl
@[simp] theorem cfRo_68 : cfRo 68 = true := rfl
@[simp] theorem cfRo_69 : cfRo 69 = true := rfl
@[simp] theorem cfRo_70 : cfRo 70 = true := rfl
@[simp] theorem cfRo_71 : cfRo 71 = true := rfl
@[simp] theorem cfRo_72 : cfRo 72 = true := rfl
@[simp] theorem cfRo_73 : cfRo 73 = false := rfl
@[simp] theorem cfRo_74 : cfRo 74 = false := rfl
@[simp] theorem cfRo_75 : cfRo 75 = false := rfl
@[simp] theorem cfRo_76 : cfRo 76 = true := rfl
@[simp] theorem cfRo_77 : cfRo 77 = false := rfl
@[simp] theorem cfRo_78 : cfRo 78 = true := rfl
@[simp] theorem cfRo_79 : cfRo 79 = true := rfl
@[simp] theorem cfRo_80 : cfRo 80 = true := rfl
@[simp] theorem cfRo_81 : cfRo 81 = true := rfl
@[simp] theorem cfRo_82 : cfRo 82 = true := rfl
@[simp] theorem cfRo_83 : cfRo 83 = true := rfl
@[simp] theorem cfRo_84 : cfRo 84 = true := rfl
@[simp] theorem cfRo_85 : cfRo 85 = true := rfl
@[simp] theorem cfRo_86 : cfRo 86 = true := rfl
@[simp] theorem cfRo_87 : cfRo 87 = true := rfl
@[simp] theorem cfRo_88 : cfRo 88 = true := rfl
@[simp] theorem cfRo_89 : cfRo 89 = true := rfl
@[simp] theorem cfRo_90 : cfRo 90 = true := rfl
@[simp] theorem cfRo_91 : cfRo 91 = true := rfl
@[simp] theorem cfRo_92 : cfRo 92 = true := rfl
@[simp] theorem cfRo_93 : cfRo 93 = true := rfl
@[simp] theorem cfRo_94 : cfRo 94 = true := rfl
@[simp] theorem cfRo_95 : cfRo 95 = true := rfl
@[simp] theorem cfRo_96 : cfRo 96 = true := rfl
@[simp] theorem cfRo_97 : cfRo 97 = true := rfl
@[simp] theorem cfRo_98 : cfRo 98 = true := rfl
@[simp] theorem cfRo_99 : cfRo 99 = true := rfl
@[simp] theorem cfRo_100 : cfRo 100 = true := rfl
@[simp] theorem cfRo_101 : cfRo 101 = true := rfl
@[simp] theorem cfRo_102 : cfRo 102 = true := rfl
@[simp] theorem cfRo_103 : cfRo 103 = true := rfl
@[simp] theorem cfRo_104 : cfRo 104 = true := rfl
@[simp] theorem cfRo_105 : cfRo 105 = false := rfl
@[simp] theorem cfRo_106 : cfRo 106 = false := rfl
@[simp] theorem cfRo_107 : cfRo 107 = true := rfl
@[simp] theorem cfRo_108 : cfRo 108 = false := rfl
@[simp] theorem cfRo_109 : cfRo 109 = true := rfl
@[simp] theorem cfRo_110 : cfRo 110 = true := rfl
@[simp] theorem cfRo_111 : cfRo 111 = true := rfl
@[simp] theorem cfRo_112 : cfRo 112 = true := rfl
@[simp] theorem cfRo_113 : cfRo 113 = true := rfl
@[simp] theorem cfRo_114 : cfRo 114 = true := rfl
@[simp] theorem cfRo_115 : cfRo 115 = false := rfl
@[simp] theorem cfRo_116 : cfRo 116 = true := rfl
@[simp] theorem cfRo_117 : cfRo 117 = true := rfl
@[simp] theorem cfRo_118 : cfRo 118 = true := rfl
@[simp] theorem cfRo_119 : cfRo 119 = true := rfl
@[simp] theorem cfRo_120 : cfRo 120 = true := rfl
@[simp] theorem cfRo_121 : cfRo 121 = true := rfl
@[simp] theorem cfRo_122 : cfRo 122 = true := rfl
@[simp] theorem cfRo_123 : cfRo 123 = true := rfl
@[simp] theorem cfRo_124 : cfRo 124 = true := rfl
@[simp] theorem cfRo_125 : cfRo 125 = true := rfl
@[simp] theorem cfRo_126 : cfRo 126 = true := rfl
@[simp] theorem cfRo_127 : cfRo 127 = true := rfl
@[simp] theorem cfRo_128 : cfRo 128 = true := rfl
@[simp] theorem cfRo_129 : cfRo 129 = true := rfl
@[simp] theorem cfRo_130 : cfRo 130 = true := rfl
@[simp] theorem cfRo_131 : cfRo 131 = true := rfl
@[simp] theorem cfRo_132 : cfRo 132 = true := rfl
@[simp] theorem cfRo_133 : cfRo 133 = true := rfl
@[simp] theorem cfRo_134 : cfRo 134 = false := rfl
@[simp] theorem cfRo_135 : cfRo 135 = true := rfl
@[simp] theorem cfRo_136 : cfRo 136 = true := rfl
@[simp] theorem cfRo_137 : cfRo 137 = true := rfl
@[simp] theorem cfRo_138 : cfRo 138 = true := rfl
@[simp] theorem cfRo_139 : cfRo 139 = true := rfl
@[simp] theorem cfRo_140 : cfRo 140 = true := rfl
@[simp] theorem cfRo_141 : cfRo 141 = false := rfl
@[simp] theorem cfRo_142 : cfRo 142 = false := rfl
@[simp] theorem cfRo_143 : cfRo 143 = true := rfl
@[simp] theorem cfRo_144 : cfRo 144 = true := rfl
@[simp] theorem cfRo_145 : cfRo 145 = true := rfl
@[simp] theorem cfRo_146 : cfRo 146 = true := rfl
@[simp] theorem cfRo_162 : cfRo 162 = true := rfl
@[simp] theorem cfFul_3 : cfFul 3 = false := rfl
@[simp] theorem cfFul_4 : cfFul 4 = false := rfl
@[simp] theorem cfFul_5 : cfFul 5 = false := rfl
@[simp] theorem cfFul_6 : cfFul 6 = false := rfl
@[simp] theorem cfFul_7 : cfFul 7 = false := rfl
@[simp] theorem cfFul_8 : cfFul 8 = false := rfl
@[simp] theorem cfFul_9 : cfFul 9 = false := rfl
@[simp] theorem cfFul_10 : cfFul 10 = false := rfl
@[simp] theorem cfFul_11 : cfFul 11 = false := rfl
@[simp] theorem cfFul_12 : cfFul 12 = false := rfl
@[simp] theorem cfFul_13 : cfFul 13 = false := rfl
@[simp] theorem cfFul_14 : cfFul 14 = false := rfl
@[simp] theorem cfFul_15 : cfFul 15 = false := rfl
@[simp] theorem cfFul_16 : cfFul 16 = false := rfl
@[simp] theorem cfFul_17 : cfFul 17 = false := rfl
@[simp] theorem cfFul_18 : cfFul 18 = false := rfl
@[simp] theorem cfFul_19 : cfFul 19 = false := rfl
@[simp] theorem cfFul_20 : cfFul 20 = false := rfl
@[simp] theorem cfFul_21 : cfFul 21 = false := rfl
@[simp] theorem cfFul_22 : cfFul 22 = false := rfl
@[simp] theorem cfFul_23 : cfFul 23 = false := rfl
@[simp] theorem cfFul_24 : cfFul 24 = false := rfl
@[simp] theorem cfFul_25 : cfFul 25 = false := rfl
@[simp] theorem cfFul_26 : cfFul 26 = false := rfl
@[simp] theorem cfFul_27 : cfFul 27 = false := rfl
@[simp] theorem cfFul_28 : cfFul 28 = false := rfl
@[simp] theorem cfFul_29 : cfFul 29 = false := rfl
@[simp] theorem cfFul_30 : cfFul 30 = false := rfl
@[simp] theorem cfFul_31 : cfFul 31 = false := rfl
@[simp] theorem cfFul_32 : cfFul 32 = false := rfl
@[simp] theorem cfFul_33 : cfFul 33 = false := rfl
@[simp] theorem cfFul_34 : cfFul 34 = false := rfl
@[simp] theorem cfFul_35 : cfFul 35 = false := rfl
@[simp] theorem cfFul_36 : cfFul 36 = false := rfl
@[simp] theorem cfFul_37 : cfFul 37 = false := rfl
@[simp] theorem cfFul_38 : cfFul 38 = false := rfl
@[simp] theorem cfFul_39 : cfFul 39 = false := rfl
@[simp] theorem cfFul_40 : cfFul 40 = false := rfl
@[simp] theorem cfFul_41 : cfFul 41 = false := rfl
@[simp] theorem cfFul_42 : cfFul 42 = false := rfl
@[simp] theorem cfFul_43 : cfFul 43 = false := rfl
@[simp] theorem cfFul_44 : cfFul 44 = false := rfl
@[simp] theorem cfFul_45 : cfFul 45 = false := rfl
@[simp] theorem cfFul_46 : cfFul 46 = false := rfl
@[simp] theorem cfFul_47 : cfFul 47 = false := rfl
@[simp] theorem cfFul_48 : cfFul 48 = false := rfl
@[simp] theorem cfFul_49 : cfFul 49 = false := rfl
@[simp] theorem cfFul_50 : cfFul 50 = false := rfl
@[simp] theorem cfFul_51 : cfFul 51 = false := rfl
@[simp] theorem cfFul_52 : cfFul 52 = false := rfl
@[simp] theorem cfFul_53 : cfFul 53 = false := rfl
@[simp] theorem cfFul_54 : cfFul 54 = false := rfl
@[simp] theorem cfFul_55 : cfFul 55 = false := rfl
@[simp] theorem cfFul_56 : cfFul 56 = false := rfl
@[simp] theorem cfFul_57 : cfFul 57 = false := rfl
@[simp] theorem cfFul_58 : cfFul 58 = false := rfl
@[simp] theorem cfFul_59 : cfFul 59 = false := rfl
@[simp] theorem cfFul_60 : cfFul 60 = false := rfl
@[simp] theorem cfFul_61 : cfFul 61 = false := rfl
@[simp] theorem cfFul_62 : cfFul 62 = false := rfl
@[simp] theorem cfFul_63 : cfFul 63 = false := rfl
@[simp] theorem cfFul_64 : cfFul 64 = false := rfl
@[simp] theorem cfFul_65 : cfFul 65 = false := rfl
@[simp] theorem cfFul_66 : cfFul 66 = false := rfl
@[simp] theorem cfFul_67 : cfFul 67 = false := rfl
@[simp] theorem cfFul_68 : cfFul 68 = false := rfl
@[simp] theorem cfFul_69 : cfFul 69 = false := rfl
@[simp] theorem cfFul_70 : cfFul 70 = false := rfl
@[simp] theorem cfFul_71 : cfFul 71 = false := rfl
@[simp] theorem cfFul_72 : cfFul 72 = false := rfl
@[simp] theorem cfFul_73 : cfFul 73 = true := rfl
@[simp] theorem cfFul_74 : cfFul 74 = false := rfl
@[simp] theorem cfFul_75 : cfFul 75 = false := rfl
@[simp] theorem cfFul_76 : cfFul 76 = false := rfl
@[simp] theorem cfFul_77 : cfFul 77 = false := rfl
@[simp] theorem cfFul_78 : cfFul 78 = false := rfl
@[simp] theorem cfFul_79 : cfFul 79 = false := rfl
@[simp] theorem cfFul_80 : cfFul 80 = false := rfl
@[simp] theorem cfFul_81 : cfFul 81 = false := rfl
@[simp] theorem cfFul_82 : cfFul 82 = false := rfl
@[simp] theorem cfFul_83 : cfFul 83 = false := rfl
@[simp] theorem cfFul_84 : cfFul 84 = false := rfl
@[simp] theorem cfFul_85 : cfFul 85 = false := rfl
@[simp] theorem cfFul_86 : cfFul 86 = false := rfl
@[simp] theorem cfFul_87 : cfFul 87 = false := rfl
@[simp] theorem cfFul_88 : cfFul 88 = false := rfl
@[simp] theorem cfFul_89 : cfFul 89 = false := rfl
@[simp] theorem cfFul_90 : cfFul 90 = false := rfl
@[simp] theorem cfFul_91 : cfFul 91 = false := rfl
@[simp] theorem cfFul_92 : cfFul 92 = false := rfl
@[simp] theorem cfFul_93 : cfFul 93 = false := rfl
@[simp] theorem cfFul_94 : cfFul 94 = false := rfl
@[simp] theorem cfFul_95 : cfFul 95 = false := rfl
@[simp] theorem cfFul_96 : cfFul 96 = false := rfl
@[simp] theorem cfFul_97 : cfFul 97 = false := rfl
@[simp] theorem cfFul_98 : cfFul 98 = false := rfl
@[simp] theorem cfFul_99 : cfFul 99 = false := rfl
@[simp] theorem cfFul_100 : cfFul 100 = false := rfl
@[simp] theorem cfFul_101 : cfFul 101 = false := rfl
@[simp] theorem cfFul_102 : cfFul 102 = false := rfl
@[simp] theorem cfFul_103 : cfFul 103 = false := rfl
@[simp] theorem cfFul_104 : cfFul 104 = false := rfl
@[simp] theorem cfFul_105 : cfFul 105 = false := rfl
@[simp] theorem cfFul_106 : cfFul 106 = false := rfl
@[simp] theorem cfFul_107 : cfFul 107 = false := rfl
@[simp] theorem cfFul_108 : cfFul 108 = true := rfl
@[simp] theorem cfFul_109 : cfFul 109 = false := rfl
@[simp] theorem cfFul_110 : cfFul 110 = false := rfl
@[simp] theorem cfFul_111 : cfFul 111 = false := rfl
@[simp] theorem cfFul_112 : cfFul 112 = false := rfl
@[simp] theorem cfFul_113 : cfFul 113 = false := rfl
@[simp] theorem cfFul_114 : cfFul 114 = false := rfl
@[simp] theorem cfFul_115 : cfFul 115 = false := rfl
@[simp] theorem cfFul_116 : cfFul 116 = false := rfl
@[simp] theorem cfFul_117 : cfFul 117 = false := rfl
@[simp] theorem cfFul_118 : cfFul 118 = false := rfl
@[simp] theorem cfFul_119 : cfFul 119 = false := rfl
@[simp] theorem cfFul_120 : cfFul 120 = false := rfl
@[simp] theorem cfFul_121 : cfFul 121 = false := rfl
@[simp] theorem cfFul_122 : cfFul 122 = false := rfl
@[simp] theorem cfFul_123 : cfFul 123 = false := rfl
@[simp] theorem cfFul_124 : cfFul 124 = false := rfl
@[simp] theorem cfFul_125 : cfFul 125 = false := rfl
@[simp] theorem cfFul_126 : cfFul 126 = false := rfl
@[simp] theorem cfFul_127 : cfFul 127 = false := rfl
@[simp] theorem cfFul_128 : cfFul 128 = false := rfl
@[simp] theorem cfFul_129 : cfFul 129 = false := rfl
@[simp] theorem cfFul_130 : cfFul 130 = false := rfl
@[simp] theorem cfFul_131 : cfFul 131 = false := rfl
@[simp] theorem cfFul_132 : cfFul 132 = false := rfl
@[simp] theorem cfFul_133 : cfFul 133 = false := rfl
@[simp] theorem cfFul_134 : cfFul 134 = false := rfl
@[simp] theorem cfFul_135 : cfFul 135 = false := rfl
@[simp] theorem cfFul_136 : cfFul 136 = false := rfl
@[simp] theorem cfFul_137 : cfFul 137 = false := rfl
@[simp] theorem cfFul_138 : cfFul 138 = false := rfl
@[simp] theorem cfFul_139 : cfFul 139 = false := rfl
@[simp] theorem cfFul_140 : cfFul 140 = false := rfl
@[simp] theorem cfFul_141 : cfFul 141 = false := rfl
@[simp] theorem cfFul_142 : cfFul 142 = false := rfl
@[simp] theorem cfFul_143 : cfFul 143 = false := rfl
@[simp] theorem cfFul_144 : cfFul 144 = false := rfl
@[simp] theorem cfFul_145 : cfFul 145 = false := rfl
@[simp] theorem cfFul_146 : cfFul 146 = false := rfl
@[simp] theorem cfFul_162 : cfFul 162 = false := rfl
attribute [simp] cfEsc cfFrz cfLazy cfLoads cfMut cfIter
def xtL : List (Nat × Nat) := [(32, 2), (28, 3)]
noncomputable def xt : Nat → Option Caller := fun f => (xtL.lookup f).map (natX Tryz.prog)
noncomputable abbrev ev : Nat → Caller := evF Tryz.prog cf xt

theorem evF_step {P : Program} {cfg : Cfg} {ext : Nat → Option Caller} {f n : Nat} {fn : Func} {args : List C} {ro : Nat} {gl : List (List W)} (hx : ext f = none) (hf : P.funcs[f]? = some fn) (hn : fnOk cfg f fn = true) :
    evF P cfg ext (n + 1) f args ro gl = bodyA P cfg f (evF P cfg ext n) n fn args ro gl := by
  simp only [evF, hx, hf, Option.bind_some]
  rw [if_pos hn]
/-- A call that shares nothing comes to r. -/
def Gives (f : Nat) (args : List C) (r : V) : Prop := Evt fun n => ∀ ro gl, ev n f args ro gl = some (r, gl)
/-- A call among what is shared; it may write what lies from fl on. -/
def Does (f : Nat) (args : List C) (fl : Nat) (gl : List (List W)) (r : V) (gl' : List (List W)) : Prop := Evt fun n => ∀ ro, ro ≤ fl → ev n f args ro gl = some (r, gl')
theorem Gives.intro {f : Nat} {fn : Func} {args : List C} {r : V} (hf : Tryz.prog.funcs[f]? = some fn) (hn : (fnOk cf f fn && (xtL.lookup f).isNone) = true)
    (h : Evt fun n => ∀ ro gl, bodyA Tryz.prog cf f (ev n) n fn args ro gl = some (r, gl)) : Gives f args r := by
  obtain ⟨a, h⟩ := h
  refine ⟨a + 1, fun n hn' ro gl => ?_⟩
  obtain ⟨m, rfl⟩ : ∃ m, n = m + 1 := ⟨n - 1, by omega⟩
  simp only [Bool.and_eq_true] at hn
  rw [ev, evF_step (by simp only [xt, Option.map_eq_none_iff]; simpa using hn.2) hf hn.1]
  exact h m (by omega) ro gl
theorem Does.intro {f : Nat} {fn : Func} {args : List C} {r : V} {fl : Nat} {gl gl' : List (List W)} (hf : Tryz.prog.funcs[f]? = some fn) (hn : (fnOk cf f fn && (xtL.lookup f).isNone) = true)
    (h : Evt fun n => ∀ ro, ro ≤ fl → bodyA Tryz.prog cf f (ev n) n fn args ro gl = some (r, gl')) : Does f args fl gl r gl' := by
  obtain ⟨a, h⟩ := h
  refine ⟨a + 1, fun n hn' ro hro => ?_⟩
  obtain ⟨m, rfl⟩ : ∃ m, n = m + 1 := ⟨n - 1, by omega⟩
  simp only [Bool.and_eq_true] at hn
  rw [ev, evF_step (by simp only [xt, Option.map_eq_none_iff]; simpa using hn.2) hf hn.1]
  exact h m (by omega) ro hro
/-- A call that changes nothing of what is shared. -/
def Reads (f : Nat) (args : List C) (gl : List (List W)) (r : V) : Prop := Evt fun n => ∀ ro, ev n f args ro gl = some (r, gl)
theorem Reads.intro {f : Nat} {fn : Func} {args : List C} {gl : List (List W)} {r : V} (hf : Tryz.prog.funcs[f]? = some fn) (hn : (fnOk cf f fn && (xtL.lookup f).isNone) = true)
    (h : Evt fun n => ∀ ro, bodyA Tryz.prog cf f (ev n) n fn args ro gl = some (r, gl)) : Reads f args gl r := by
  obtain ⟨a, h⟩ := h
  refine ⟨a + 1, fun n hn' ro => ?_⟩
  obtain ⟨m, rfl⟩ : ∃ m, n = m + 1 := ⟨n - 1, by omega⟩
  simp only [Bool.and_eq_true] at hn
  rw [ev, evF_step (by simp only [xt, Option.map_eq_none_iff]; simpa using hn.2) hf hn.1]
  exact h m (by omega) ro
theorem Reads.does {f : Nat} {args : List C} {fl : Nat} {gl : List (List W)} {r : V} (h : Reads f args gl r) : Does f args fl gl r gl := h.imp fun _ h ro _ => h ro
theorem Gives.reads {f : Nat} {args : List C} {r : V} (h : Gives f args r) (gl : List (List W)) : Reads f args gl r := h.imp fun _ h ro => h ro _
theorem set_same {α : Type} {l : List α} {o : Nat} {x : α} (h : l[o]? = some x) : l.set o x = l := by
  apply List.ext_getElem?
  intro j
  rw [List.getElem?_set]
  by_cases hj : o = j
  · subst hj
    have hl : o < l.length := (List.getElem?_eq_some_iff.1 h).1
    rw [if_pos rfl, if_pos hl, h]
  · rw [if_neg hj]
theorem Gives.does {f : Nat} {args : List C} {r : V} (h : Gives f args r) (fl : Nat) (gl : List (List W)) : Does f args fl gl r gl := h.imp fun _ h ro _ => h ro gl

theorem ext_sound : ∀ f g, xt f = some g → Sound Tryz.prog False (fun f' => if f' = f then g f' else fun _ _ _ => none) := fun f g h => by
  simp only [xt, Option.map_eq_some_iff] at h
  obtain ⟨k, hk, rfl⟩ := h
  simp only [xtL, List.lookup] at hk
  split at hk
  · rename_i he
    cases hk
    obtain rfl : f = 32 := by simpa using he
    exact natS_sound
  split at hk
  · rename_i he
    cases hk
    obtain rfl : f = 28 := by simpa using he
    exact natS_sound
  cases hk
/-- The loops of some code, outer ones first. -/
def loopsOf : Code → List Code
  | .seq a b => loopsOf a ++ loopsOf b
  | .cond _ a b => loopsOf a ++ loopsOf b
  | .block _ b => loopsOf b
  | .loop b => b :: loopsOf b
  | _ => []
def bodyOf (fn : Func) (k : Nat) : Code := ((fn.body.map loopsOf).getD [])[k]?.getD .skip
/-- The loops over functions of some code: how a round begins, and the round. -/
def rangesOf : Code → List (Code × Code)
  | .seq a b => rangesOf a ++ rangesOf b
  | .cond _ a b => rangesOf a ++ rangesOf b
  | .block _ b => rangesOf b
  | .loop b => rangesOf b
  | .rangeFunc _ _ a b => [(a, b)]
  | _ => []
def rangeOf (fn : Func) (k : Nat) : Code × Code := ((fn.body.map rangesOf).getD [])[k]?.getD (.skip, .skip)
def hv (keep : List Nat) (r : Ex × St) : Ex × St := (r.1, r.2.hav keep)
theorem loop_step {f : St → Option (Ex × St)} {keep res : List Nat} {n : Nat} {s S : St} {Z : Option (Ex × St)} (h : (f (s.hav keep)).map (hv keep) = some (.normal, S)) (k : ∀ s', s'.hav keep = S → loopA f keep res n s' = Z) : loopA f keep res (n + 1) s = Z := by
  rw [Option.map_eq_some_iff] at h
  obtain ⟨⟨e, s1⟩, h1, h2⟩ := h
  simp only [hv, Prod.mk.injEq] at h2
  obtain ⟨rfl, h2⟩ := h2
  rw [← k s1 h2]
  simp only [loopA, iter, h1, Option.bind_some]
theorem loop_on {f : St → Option (Ex × St)} {keep : List Nat} {s S : St} (h : (f (s.hav keep)).map (hv keep) = some (.normal, S)) : ∃ s', s'.hav keep = S ∧ ∀ res n, loopA f keep res (n + 1) s = loopA f keep res n s' := by
  rw [Option.map_eq_some_iff] at h
  obtain ⟨⟨e, s1⟩, h1, h2⟩ := h
  simp only [hv, Prod.mk.injEq] at h2
  obtain ⟨rfl, h2⟩ := h2
  refine ⟨s1, h2, fun res n => ?_⟩
  simp only [loopA, iter, h1, Option.bind_some]
theorem loop_exit {f : St → Option (Ex × St)} {keep res : List Nat} {n i : Nat} {s S : St} (h : (f (s.hav keep)).map (hv keep) = some (.exit i, S)) : loopA f keep res (n + 1) s = some (.exit i, S) := by
  rw [Option.map_eq_some_iff] at h
  obtain ⟨⟨e, s1⟩, h1, h2⟩ := h
  simp only [hv, Prod.mk.injEq] at h2
  obtain ⟨rfl, h2⟩ := h2
  simp only [loopA, iter, h1, Option.bind_some, Option.map_some, exitHav, h2]
theorem loop_ret {f : St → Option (Ex × St)} {keep res : List Nat} {n : Nat} {s S : St} (h : (f (s.hav keep)).map (hv res) = some (.ret, S)) : loopA f keep res (n + 1) s = some (.ret, S) := by
  rw [Option.map_eq_some_iff] at h
  obtain ⟨⟨e, s1⟩, h1, h2⟩ := h
  simp only [hv, Prod.mk.injEq] at h2
  obtain ⟨rfl, h2⟩ := h2
  simp only [loopA, iter, h1, Option.bind_some, Option.map_some, exitHav, h2]
/-- A loop by a rule: S0 a state, R a what it comes to, m a measure. -/
theorem loop_by {σ : Type} {f : St → Option (Ex × St)} {keep res : List Nat} (S0 : σ → St) (P : σ → Prop) (m : σ → Nat) (R : σ → Ex × St)
    (round : ∀ a, P a → (∃ b, P b ∧ m b < m a ∧ (f (S0 a)).map (hv keep) = some (.normal, S0 b) ∧ R a = R b) ∨ (∃ i S, (f (S0 a)).map (hv keep) = some (.exit i, S) ∧ R a = (.exit i, S)) ∨ (∃ S, (f (S0 a)).map (hv res) = some (.ret, S) ∧ R a = (.ret, S))) :
    ∀ (n : Nat) (a : σ) (S : St), P a → m a < n → S.hav keep = S0 a → loopA f keep res n S = some (R a)
  | 0, a, S, _, hm, _ => absurd hm (by omega)
  | n + 1, a, S, hP, hm, hS => by
    rcases round a hP with ⟨b, hb, hlt, h, hR⟩ | ⟨i, T, h, hR⟩ | ⟨T, h, hR⟩
    · rw [← hS] at h
      obtain ⟨S', hS', e⟩ := loop_on h
      rw [e, hR]
      exact loop_by S0 P m R round n b S' hb (by omega) hS'
    · rw [hR]
      refine loop_exit ?_
      rw [hS]
      exact h
    · rw [hR]
      refine loop_ret ?_
      rw [hS]
      exact h
theorem iter_succ (f : St → Option (Ex × St)) (h : St → St) (n : Nat) (s : St) : iter f h (n + 1) s = (f (h s)).bind fun | (.normal, s') => iter f h n s' | r => some r := rfl

@[simp] theorem i64w (x : Int) (h : -9223372036854775808 ≤ x ∧ x ≤ 9223372036854775807) : IntKind.i64.wrap x = x := IntWalk.i64_in x h
@[simp] theorem u64w (x : Int) (h : 0 ≤ x ∧ x ≤ 18446744073709551615) : IntKind.u64.wrap x = x := by
  simp only [IntKind.wrap, IntKind.signed, IntKind.bits, Bool.false_and, Bool.false_eq_true, if_false]
  omega
@[simp] theorem u8w (x : Int) (h : 0 ≤ x ∧ x ≤ 255) : IntKind.u8.wrap x = x := by
  simp only [IntKind.wrap, IntKind.signed, IntKind.bits, Bool.false_and, Bool.false_eq_true, if_false]
  omega

@[simp] theorem tmod_nat (n : Nat) (k : Nat) : (n : Int).tmod (no_index (OfNat.ofNat k)) = (n : Int) % (OfNat.ofNat k) := Int.tmod_eq_emod_of_nonneg (by omega)
@[simp] theorem tdiv_nat (n : Nat) (k : Nat) : (n : Int).tdiv (no_index (OfNat.ofNat k)) = (n : Int) / (OfNat.ofNat k) := Int.tdiv_eq_ediv_of_nonneg (by omega)
/-- Closed cells. -/
@[simp] theorem closes_map {α : Type} (f : α → D) (l : List α) : closes (l.map fun x => W.d (f x)) = some (l.map f) := by
  induction l with
  | nil => rfl
  | cons a l ih => simp only [List.map_cons, closes, W.close, Option.bind_some, ih, Option.map_some]
@[simp] theorem hav_d (k : List Nat) : W.hav k ∘ W.d = W.d := rfl
@[simp] theorem hav_df {α : Type} (k : List Nat) (f : α → D) : (W.hav k ∘ fun x => W.d (f x)) = fun x => W.d (f x) := rfl
@[simp] theorem d_df {α : Type} (f : α → D) : (W.d ∘ fun x => f x) = fun x => W.d (f x) := rfl
@[simp] theorem drop_mid {α β : Type} (f : α → β) (p : List α) (x : β) (r : List β) : List.drop (p.length + 1) (p.map f ++ x :: r) = r := by
  rw [List.drop_append]
  simp
@[simp] theorem take_all {α β : Type} (f : α → β) (l : List α) : List.take l.length (l.map f) = l.map f := List.take_of_length_le (by simp)
/-- A byte, as data. -/
abbrev u8D (b : UInt8) : D := .int .u8 b.toNat
@[simp] theorem bytesOf_nil : bytesOf [] = some [] := rfl
@[simp] theorem bytesOf_cons (b : UInt8) (l : List (List D)) : bytesOf ([D.int .u8 b.toNat] :: l) = (bytesOf l).map (b :: ·) := by
  simp only [bytesOf, byteOf]
  rw [if_pos (by have := b.toNat_lt; omega)]
  cases bytesOf l <;> simp
@[simp] theorem bytesOf_u8 (l : List UInt8) : bytesOf (l.map fun x => [D.int .u8 x.toNat]) = some l := by
  induction l with
  | nil => rfl
  | cons a l ih => rw [List.map_cons, bytesOf_cons, ih]; rfl
@[simp] theorem bytesOf_comp (l : List UInt8) : bytesOf (l.map ((fun d => [d]) ∘ u8D)) = some l := bytesOf_u8 l
@[simp] theorem bytesOf_map (l : List UInt8) : bytesOf (l.map byteD) = some l := bytesOf_u8 l

abbrev I (n : Int) : C := .w (.d (.int .i64 n))
abbrev B (b : Bool) : C := .w (.d (.bool b))
abbrev T (s : List UInt8) : C := .w (.d (.str s))
abbrev L (xs : List (List D)) : C := .w (.d (.sl xs))

theorem arg_int {P : Program} {K t : Nat} {k : IntKind} {c : C} (hu : P.underlying t = some (.int k)) (h : ArgOf P (K + 1) t c) : ∃ x, c = .w (.d (.int k x)) ∧ (Lit.int k x).wf = true := by
  obtain ⟨ds, h1, h2⟩ := h
  simp only [Shape, hu] at h1
  obtain ⟨x, rfl, hx⟩ := h1
  rw [isAgg_of hu] at h2
  rcases h2 with ⟨h, _⟩ | ⟨_, d, h, rfl⟩
  · cases h
  · cases h; exact ⟨x, rfl, hx⟩
theorem arg_bool {P : Program} {K t : Nat} {c : C} (hu : P.underlying t = some .bool) (h : ArgOf P (K + 1) t c) : ∃ x, c = .w (.d (.bool x)) := by
  obtain ⟨ds, h1, h2⟩ := h
  simp only [Shape, hu] at h1
  obtain ⟨x, rfl⟩ := h1
  rw [isAgg_of hu] at h2
  rcases h2 with ⟨h, _⟩ | ⟨_, d, h, rfl⟩
  · cases h
  · cases h; exact ⟨x, rfl⟩
theorem arg_str {P : Program} {K t : Nat} {c : C} (hu : P.underlying t = some .string) (h : ArgOf P (K + 1) t c) : ∃ x : List UInt8, c = .w (.d (.str x)) ∧ x.length ≤ maxLen := by
  obtain ⟨ds, h1, h2⟩ := h
  simp only [Shape, hu] at h1
  obtain ⟨x, rfl, hx⟩ := h1
  rw [isAgg_of hu] at h2
  rcases h2 with ⟨h, _⟩ | ⟨_, d, h, rfl⟩
  · cases h
  · cases h; exact ⟨x, rfl, hx⟩
theorem arg_slice {P : Program} {K t e : Nat} {c : C} (hu : P.underlying t = some (.slice e)) (h : ArgOf P (K + 1) t c) : ∃ xs : List (List D), c = .w (.d (.sl xs)) ∧ xs.length ≤ maxLen ∧ ∀ x ∈ xs, Shape P K e x := by
  obtain ⟨ds, h1, h2⟩ := h
  simp only [Shape, hu] at h1
  obtain ⟨x, rfl, hx, hx'⟩ := h1
  rw [isAgg_of hu] at h2
  rcases h2 with ⟨h, _⟩ | ⟨_, d, h, rfl⟩
  · cases h
  · cases h; exact ⟨x, rfl, hx, hx'⟩
theorem uncons' {α β : Type} {R : α → β → Prop} {a : α} {l : List α} {c : List β} (h : All2 R (a :: l) c) : ∃ b r, c = b :: r ∧ R a b ∧ All2 R l r := by
  cases c with
  | nil => exact absurd h.1 (by simp)
  | cons b r => exact ⟨b, r, rfl, h.2 0 a b rfl rfl, by have := h.1; simpa using this, fun i x y hx hy => h.2 (i + 1) x y (by simpa using hx) (by simpa using hy)⟩
theorem nil' {α β : Type} {R : α → β → Prop} {c : List β} (h : All2 R [] c) : c = [] := by
  cases c with
  | nil => rfl
  | cons b r => exact absurd h.1 (by simp)
theorem i64_wf {x : Int} (h : (Lit.int .i64 x).wf = true) : -9223372036854775808 ≤ x ∧ x ≤ 9223372036854775807 := by
  simp [Lit.wf, IntKind.min, IntKind.max, IntKind.signed, IntKind.bits] at h
  omega
theorem Gives.goes {f : Nat} {args : List C} {r : V} (h : Gives f args r) : ∃ n gl, evF Tryz.prog cf xt n f args 0 [] = some (r, gl) := by
  obtain ⟨n, h⟩ := h
  exact ⟨n, [], h n (Nat.le_refl _) 0 []⟩
theorem Does.goes {f : Nat} {args : List C} {r : V} {fl : Nat} {gl : List (List W)} (h : Does f args fl [] r gl) : ∃ n gl, evF Tryz.prog cf xt n f args 0 [] = some (r, gl) := by
  obtain ⟨n, h⟩ := h
  exact ⟨n, gl, h n (Nat.le_refl _) 0 (Nat.zero_le _)⟩
theorem Gives.nat {f k : Nat} {args : List C} {r : V} (hf : xtL.lookup f = some k) (h : ∀ ro gl, natX Tryz.prog k f args ro gl = some (r, gl)) : Gives f args r := by
  refine ⟨1, fun n hn ro gl => ?_⟩
  obtain ⟨m, rfl⟩ : ∃ m, n = m + 1 := ⟨n - 1, by omega⟩
  simp only [ev, evF, xt, hf, Option.map_some]
  exact h ro gl
/-- A loop, with its code out of simp's sight. -/
def loopC (P : Program) (cfg : Cfg) (fid : Nat) (call : Caller) (n : Nat) (b : Code) (s : St) : Option (Ex × St) :=
  loopA (evC P cfg fid call n b) (cfg.keep fid (firstId b)) (cfg.res fid) n s
/-- A loop over a function, with its code out of simp's sight. -/
def roundC (P : Program) (cfg : Cfg) (fid : Nat) (call : Caller) (n : Nat) (ab : Code × Code) (ps : List Nat) (s : St) (gl : List (List W)) (y : List C) : Option (Ex × List (List W)) :=
  roundA (evC P cfg fid call n ab.1) (evC P cfg fid call n ab.2) ps s gl y
def rangeC (P : Program) (cfg : Cfg) (fid : Nat) (call : Caller) (n : Nat) (ab : Code × Code) (ps : List Nat) (s : St) (ys : List (List C)) (gl : List (List W)) : Option (Ex × List (List W)) :=
  rangeA (roundC P cfg fid call n ab ps s) ys gl
@[congr] theorem rangeC_congr {P : Program} {cfg : Cfg} {fid : Nat} {call : Caller} {n : Nat} {ab : Code × Code} {ps : List Nat} {s s' : St} {ys ys' : List (List C)} {gl gl' : List (List W)} (h : s = s') (hy : ys = ys') (hg : gl = gl') :
    rangeC P cfg fid call n ab ps s ys gl = rangeC P cfg fid call n ab ps s' ys' gl' := by rw [h, hy, hg]
theorem rangeC_nil {P : Program} {cfg : Cfg} {fid : Nat} {call : Caller} {n : Nat} {ab : Code × Code} {ps : List Nat} {s : St} {gl : List (List W)} : rangeC P cfg fid call n ab ps s [] gl = some (.normal, gl) := rfl
theorem rangeC_cons {P : Program} {cfg : Cfg} {fid : Nat} {call : Caller} {n : Nat} {ab : Code × Code} {ps : List Nat} {s : St} {y : List C} {r : List (List C)} {gl : List (List W)} : rangeC P cfg fid call n ab ps s (y :: r) gl = (roundC P cfg fid call n ab ps s gl y).bind fun
    | (.normal, gl') => rangeC P cfg fid call n ab ps s r gl'
    | q => some q := rfl
@[congr] theorem loopC_congr {P : Program} {cfg : Cfg} {fid : Nat} {call : Caller} {n : Nat} {b : Code} {s s' : St} (h : s = s') : loopC P cfg fid call n b s = loopC P cfg fid call n b s' := by rw [h]
section
variable (P : Program) (cfg : Cfg) (fid : Nat) (call : Caller) (n : Nat) (s : St)
@[simp] theorem evC_skip : evC P cfg fid call n .skip s = some (.normal, s) := rfl
@[simp] theorem evC_seq (a b : Code) : evC P cfg fid call n (.seq a b) s = (evC P cfg fid call n a s).bind fun
    | (.normal, s') => evC P cfg fid call n b s'
    | r => some r := rfl
@[simp] theorem evC_cond (c : Operand) (a b : Code) : evC P cfg fid call n (.cond c a b) s = (s.ev c).bind fun
    | .c (.w (.d (.bool q))) => if q then evC P cfg fid call n a s else evC P cfg fid call n b s
    | _ => none := rfl
@[simp] theorem evC_block (id : Nat) (b : Code) : evC P cfg fid call n (.block id b) s = (evC P cfg fid call n b s).bind fun
    | (.exit i, s') => if i = id then some (.normal, s') else some (.exit i, s')
    | r => some r := by
  simp only [evC]
  cases evC P cfg fid call n b s with
  | none => rfl
  | some r =>
    rcases r with ⟨e, s'⟩
    cases e <;> simp
    split <;> simp [*]
@[simp] theorem evC_range (g : Operand) (ps : Array Tmp) (a b : Code) : evC P cfg fid call n (.rangeFunc g ps a b) s = (iterA cfg s g ps.size).bind fun p => (rangeC P cfg fid call n (a, b) ps.toList p.2 p.1 p.2.gl).bind fun r => some (r.1, { p.2 with gl := r.2 }) := by
  simp only [evC, rangeC, Option.map_eq_bind]
  rfl
@[simp] theorem evC_exit (id : Nat) : evC P cfg fid call n (.exit id) s = some (.exit id, s) := rfl
@[simp] theorem evC_ret : evC P cfg fid call n .ret s = some (.ret, s) := rfl
@[simp] theorem evC_loop (b : Code) : evC P cfg fid call n (.loop b) s = loopC P cfg fid call n b s := rfl
end
@[simp] theorem beq_int (a b : Int) : (a == b) = decide (a = b) := by rw [Bool.eq_iff_iff]; simp
@[simp] theorem beq_str (a b : List UInt8) : (a == b) = decide (a = b) := by rw [Bool.eq_iff_iff]; simp
@[simp] theorem size_mk (a : Array UInt8) : ByteArray.size ⟨a⟩ = a.size := rfl
@[simp] theorem maxLen_eq : maxLen = 9223372036854775807 := rfl
theorem bind_go {α β : Type} {x : Option α} {v : α} {k : α → Option β} {r : Option β} (h : x = some v) (g : k v = r) : x.bind k = r := by rw [h]; exact g
end Go.Proofs.YtckonoejmjblfaaGreat.Ev

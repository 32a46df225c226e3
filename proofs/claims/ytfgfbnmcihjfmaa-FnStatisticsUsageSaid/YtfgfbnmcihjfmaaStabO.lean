/-
  The merge of two sorted runs: what stands behind the search: the rotation and the two calls of itself, walked one by one.
-/
import Derived.Test.YtfgfbnmcihjfmaaStabN
import Derived.Test.YtfgfbnmcihjfmaaStabX
import Derived.Deep.CutRange
namespace Go.Proofs.Ytfgfbnmcihjfmaa
open Go.RowKit
set_option linter.unusedVariables false
set_option linter.unusedSimpArgs false
set_option maxRecDepth 100000

/-- Whether a code begins with region n. -/
def begins (n : Nat) : Code → Bool
  | .region k _ _ => k == n
  | .seq a _ => begins n a
  | _ => false
/-- The rest of a code from region n on. -/
def fromRegion (n : Nat) : Code → Option Code
  | .seq a b => if begins n a then some (.seq a b) else match fromRegion n a with
    | some c => some c
    | none => fromRegion n b
  | .block _ c => fromRegion n c
  | .scope c => fromRegion n c
  | _ => none
noncomputable def tail43 : Code := (Try.f60.body.bind (fromRegion 43)).getD .skip
set_option maxHeartbeats 8000000 in
theorem merge_tail43 (lo g cap n a m b gb mid r e : Nat) (c : Int → Int) (P A B S : List Int) (W w : World) (hn : n ≤ 1000000) (k1 : a ≤ r) (k2 : r ≤ m) (k3 : m ≤ e) (k4 : e ≤ b) (hbn : b ≤ n) (hmid : a < mid ∧ mid < b) (A1 A2 B1 B2 C xs : List Int) (HR : Hid (Runs c xs a m b P A B S)) (HH : Hid (Halves c a m b mid r e A B))
    (HCP : Hid (C.Perm (A.take (r - a) ++ B.take (e - m)))) (HCS : Hid (C.Pairwise (Bef c))) (HR2 : Hid (RowZ W w lo g cap n (P ++ (C ++ (A.drop (r - a) ++ (B.drop (e - m) ++ S))))))
    (ih : Hid ( ∀ (a' m' b' : Nat) (xs P A B S : List Int) (w : World), b' - a' < b - a → a' < m' → m' < b' → RowZ W w lo g cap n xs → Runs c xs a' m' b' P A B S →
      Calls Try.prog 60 #[.slice (some ⟨g, 0, none⟩) n cap, .int .i64 a', .int .i64 m', .int .i64 b', .func (.func 24) #[] #[.pointer (some ⟨gb, 0, none⟩)]] w (MergeRes W lo g cap n c P A B S)))
    (c5 c6 c7 c8 c9 c10 c11 c12 c13 c14 c15 c16 c17 c19 c21 c22 c23 c25 c26 c27 c28 c29 c30 c31 c32 c33 c34 c35 c36 c37 c38 c39 c40 c41 c42 c43 c44 c45 c46 c47 c48 c49 c50 c51 c52 c53 c54 c55 c56 c57 c58 c59 c60 c61 c62 c63 c64 c65 c66 c67 c68 c69 c70 c71 c72 c73 c74 c75 c76 c77 c78 c79 c80 c81 c82 c83 c84 c85 c86 c87 c88 c89 c90 c91 c92 c93 c94 c95 c96 c97 c98 c99 c100 c101 c102 c103 c104 c105 c106 c107 c108 c109 c110 c111 c112 c113 c114 c115 c116 c117 c118 c119 c120 c121 c122 c123 c124 c125 c126 c127 c128 c129 c130 c131 c132 c133 c134 c135 c136 c137 c138 c139 c140 c141 c142 c143 c144 c145 c146 c147 c148 c149 c150 c151 c152 c153 c154 c155 c156 c157 c158 c159 c160 c161 c162 c163 c164 c165 c166 c167 c168 c169 c170 c171 c172 c173 c174 c175 c176 c177 c178 c179 c180 c181 c182 c183 c184 c185 c186 c187 c188 c189 c190 c191 c192 c193 c194 c195 c196 c197 c198 c199 c200 c201 c202 c203 c204 c205 c206 c207 c208 c209 c210 c211 c212 c213 c214 c215 c216 c217 c218 c219 : Value) :
    Code.wp Try.prog tail43 (bodyPost Try.prog Try.f60 (MergeRes W lo g cap n c P A B S)) ⟨List.toArray (.slice (some ⟨g, 0, none⟩) n cap :: .int .i64 a :: .int .i64 m :: .int .i64 b :: .func (.func 24) #[] #[.pointer (some ⟨gb, 0, none⟩)] :: c5 :: c6 :: c7 :: c8 :: c9 :: c10 :: c11 :: c12 :: c13 :: c14 :: c15 :: c16 :: c17 :: .int .i64 mid :: c19 :: .int .i64 r :: c21 :: c22 :: c23 :: .int .i64 e :: c25 :: c26 :: c27 :: c28 :: c29 :: c30 :: c31 :: c32 :: c33 :: c34 :: c35 :: c36 :: c37 :: c38 :: c39 :: c40 :: c41 :: c42 :: c43 :: c44 :: c45 :: c46 :: c47 :: c48 :: c49 :: c50 :: c51 :: c52 :: c53 :: c54 :: c55 :: c56 :: c57 :: c58 :: c59 :: c60 :: c61 :: c62 :: c63 :: c64 :: c65 :: c66 :: c67 :: c68 :: c69 :: c70 :: c71 :: c72 :: c73 :: c74 :: c75 :: c76 :: c77 :: c78 :: c79 :: c80 :: c81 :: c82 :: c83 :: c84 :: c85 :: c86 :: c87 :: c88 :: c89 :: c90 :: c91 :: c92 :: c93 :: c94 :: c95 :: c96 :: c97 :: c98 :: c99 :: c100 :: c101 :: c102 :: c103 :: c104 :: c105 :: c106 :: c107 :: c108 :: c109 :: c110 :: c111 :: c112 :: c113 :: c114 :: c115 :: c116 :: c117 :: c118 :: c119 :: c120 :: c121 :: c122 :: c123 :: c124 :: c125 :: c126 :: c127 :: c128 :: c129 :: c130 :: c131 :: c132 :: c133 :: c134 :: c135 :: c136 :: c137 :: c138 :: c139 :: c140 :: c141 :: c142 :: c143 :: c144 :: c145 :: c146 :: c147 :: c148 :: c149 :: c150 :: c151 :: c152 :: c153 :: c154 :: c155 :: c156 :: c157 :: c158 :: c159 :: c160 :: c161 :: c162 :: c163 :: c164 :: c165 :: c166 :: c167 :: c168 :: c169 :: c170 :: c171 :: c172 :: c173 :: c174 :: c175 :: c176 :: c177 :: c178 :: c179 :: c180 :: c181 :: c182 :: c183 :: c184 :: c185 :: c186 :: c187 :: c188 :: c189 :: c190 :: c191 :: c192 :: c193 :: c194 :: c195 :: c196 :: c197 :: c198 :: c199 :: c200 :: c201 :: c202 :: c203 :: c204 :: c205 :: c206 :: c207 :: c208 :: c209 :: c210 :: c211 :: c212 :: c213 :: c214 :: c215 :: c216 :: c217 :: c218 :: c219 :: []), []⟩ w := by
  conv => arg 2; whnf
  go_upto_region 43 with fail
  obtain ⟨bt, hbt⟩ : ∃ bt, bt = decide (mid < e ∧ e < b) := ⟨_, rfl⟩
  have HBT := Lib.hid hbt
  obtain ⟨w0, hw0⟩ : ∃ w0, w0 = w := ⟨_, rfl⟩
  have HW0 := Lib.hid hw0
  clear hbt hw0
  go_cut [213] from 25 to 219 (fun x wx => x = .bool bt ∧ wx = w0)
  case first =>
    by_cases c1 : mid < e
    · have c1' : (mid : Int) < (e : Int) := by omega
      by_cases c2 : e < b
      · have c2' : (e : Int) < (b : Int) := by omega
        have HB := Lib.hid (decide_eq_true (show mid < e ∧ e < b from ⟨c1, c2⟩))
        clear c1 c2
        go_wp2
        go_meet
        exact ⟨by rw [HBT.out, HB.out], HW0.out.symm⟩
      · have c2' : ¬ (e : Int) < (b : Int) := by omega
        have HB := Lib.hid (decide_eq_false (show ¬ (mid < e ∧ e < b) from fun h => c2 h.2))
        clear c1 c2
        go_wp2
        go_meet
        exact ⟨by rw [HBT.out, HB.out], HW0.out.symm⟩
    · have c1' : ¬ (mid : Int) < (e : Int) := by omega
      have HB := Lib.hid (decide_eq_false (show ¬ (mid < e ∧ e < b) from fun h => c1 h.1))
      clear c1
      go_wp2
      go_meet
      exact ⟨by rw [HBT.out, HB.out], HW0.out.symm⟩
  case rest =>
  obtain ⟨rfl, hwc⟩ := hcut
  rw [HW0.out] at hwc
  subst wc
  go_upto_if 213 with fail
  cases bt with
  | true =>
    have hb := of_decide_eq_true HBT.out.symm
    have HC2 := Lib.hid (ih.out mid e b _ _ _ _ _ w (by omega) hb.1 hb.2 HR2.out (HR.out.second HH.out HCP.out))
    clear hb
    go_wp2_with fail
    refine HC2.out.mono ?_
    rintro e' w3 ⟨rfl, ys, hmg, hr1⟩
    have HF := Lib.hid (HR.out.whole HH.out HCP.out HCS.out hmg)
    have HR3 := Lib.hid hr1
    clear hmg hr1
    go_wp2
    go_end0
    exact ⟨rfl, _, HF.out, HR3.out⟩
  | false =>
    have hb := of_decide_eq_false HBT.out.symm
    have HF := Lib.hid (HR.out.whole HH.out HCP.out HCS.out ((HR.out.second HH.out HCP.out).nothing (by omega)))
    clear hb
    go_wp2
    go_end0
    exact ⟨rfl, _, HF.out, HR2.out⟩

noncomputable def tail41 : Code := (Try.f60.body.bind (fromRegion 41)).getD .skip
set_option maxHeartbeats 8000000 in
theorem merge_tail41 (lo g cap n a m b gb mid r e : Nat) (c : Int → Int) (P A B S : List Int) (W w : World) (hn : n ≤ 1000000) (k1 : a ≤ r) (k2 : r ≤ m) (k3 : m ≤ e) (k4 : e ≤ b) (hbn : b ≤ n) (hmid : a < mid ∧ mid < b) (xs : List Int) (HR : Hid (Runs c xs a m b P A B S)) (HH : Hid (Halves c a m b mid r e A B))
    (HTU : Hid (RowZ W w lo g cap n (turned P A B S (r - a) (e - m))))
    (ih : Hid ( ∀ (a' m' b' : Nat) (xs P A B S : List Int) (w : World), b' - a' < b - a → a' < m' → m' < b' → RowZ W w lo g cap n xs → Runs c xs a' m' b' P A B S →
      Calls Try.prog 60 #[.slice (some ⟨g, 0, none⟩) n cap, .int .i64 a', .int .i64 m', .int .i64 b', .func (.func 24) #[] #[.pointer (some ⟨gb, 0, none⟩)]] w (MergeRes W lo g cap n c P A B S)))
    (c5 c6 c7 c8 c9 c10 c11 c12 c13 c14 c15 c16 c17 c19 c21 c22 c23 c25 c26 c27 c28 c29 c30 c31 c32 c33 c34 c35 c36 c37 c38 c39 c40 c41 c42 c43 c44 c45 c46 c47 c48 c49 c50 c51 c52 c53 c54 c55 c56 c57 c58 c59 c60 c61 c62 c63 c64 c65 c66 c67 c68 c69 c70 c71 c72 c73 c74 c75 c76 c77 c78 c79 c80 c81 c82 c83 c84 c85 c86 c87 c88 c89 c90 c91 c92 c93 c94 c95 c96 c97 c98 c99 c100 c101 c102 c103 c104 c105 c106 c107 c108 c109 c110 c111 c112 c113 c114 c115 c116 c117 c118 c119 c120 c121 c122 c123 c124 c125 c126 c127 c128 c129 c130 c131 c132 c133 c134 c135 c136 c137 c138 c139 c140 c141 c142 c143 c144 c145 c146 c147 c148 c149 c150 c151 c152 c153 c154 c155 c156 c157 c158 c159 c160 c161 c162 c163 c164 c165 c166 c167 c168 c169 c170 c171 c172 c173 c174 c175 c176 c177 c178 c179 c180 c181 c182 c183 c184 c185 c186 c187 c188 c189 c190 c191 c192 c193 c194 c195 c196 c197 c198 c199 c200 c201 c202 c203 c204 c205 c206 c207 c208 c209 c210 c211 c212 c213 c214 c215 c216 c217 c218 c219 : Value) :
    Code.wp Try.prog tail41 (bodyPost Try.prog Try.f60 (MergeRes W lo g cap n c P A B S)) ⟨List.toArray (.slice (some ⟨g, 0, none⟩) n cap :: .int .i64 a :: .int .i64 m :: .int .i64 b :: .func (.func 24) #[] #[.pointer (some ⟨gb, 0, none⟩)] :: c5 :: c6 :: c7 :: c8 :: c9 :: c10 :: c11 :: c12 :: c13 :: c14 :: c15 :: c16 :: c17 :: .int .i64 mid :: c19 :: .int .i64 r :: c21 :: c22 :: c23 :: .int .i64 e :: c25 :: c26 :: c27 :: c28 :: c29 :: c30 :: c31 :: c32 :: c33 :: c34 :: c35 :: c36 :: c37 :: c38 :: c39 :: c40 :: c41 :: c42 :: c43 :: c44 :: c45 :: c46 :: c47 :: c48 :: c49 :: c50 :: c51 :: c52 :: c53 :: c54 :: c55 :: c56 :: c57 :: c58 :: c59 :: c60 :: c61 :: c62 :: c63 :: c64 :: c65 :: c66 :: c67 :: c68 :: c69 :: c70 :: c71 :: c72 :: c73 :: c74 :: c75 :: c76 :: c77 :: c78 :: c79 :: c80 :: c81 :: c82 :: c83 :: c84 :: c85 :: c86 :: c87 :: c88 :: c89 :: c90 :: c91 :: c92 :: c93 :: c94 :: c95 :: c96 :: c97 :: c98 :: c99 :: c100 :: c101 :: c102 :: c103 :: c104 :: c105 :: c106 :: c107 :: c108 :: c109 :: c110 :: c111 :: c112 :: c113 :: c114 :: c115 :: c116 :: c117 :: c118 :: c119 :: c120 :: c121 :: c122 :: c123 :: c124 :: c125 :: c126 :: c127 :: c128 :: c129 :: c130 :: c131 :: c132 :: c133 :: c134 :: c135 :: c136 :: c137 :: c138 :: c139 :: c140 :: c141 :: c142 :: c143 :: c144 :: c145 :: c146 :: c147 :: c148 :: c149 :: c150 :: c151 :: c152 :: c153 :: c154 :: c155 :: c156 :: c157 :: c158 :: c159 :: c160 :: c161 :: c162 :: c163 :: c164 :: c165 :: c166 :: c167 :: c168 :: c169 :: c170 :: c171 :: c172 :: c173 :: c174 :: c175 :: c176 :: c177 :: c178 :: c179 :: c180 :: c181 :: c182 :: c183 :: c184 :: c185 :: c186 :: c187 :: c188 :: c189 :: c190 :: c191 :: c192 :: c193 :: c194 :: c195 :: c196 :: c197 :: c198 :: c199 :: c200 :: c201 :: c202 :: c203 :: c204 :: c205 :: c206 :: c207 :: c208 :: c209 :: c210 :: c211 :: c212 :: c213 :: c214 :: c215 :: c216 :: c217 :: c218 :: c219 :: []), []⟩ w := by
  conv => arg 2; whnf
  go_upto_region 41 with fail
  obtain ⟨bt, hbt⟩ : ∃ bt, bt = decide (a < r ∧ r < mid) := ⟨_, rfl⟩
  have HBT := Lib.hid hbt
  obtain ⟨w0, hw0⟩ : ∃ w0, w0 = w := ⟨_, rfl⟩
  have HW0 := Lib.hid hw0
  clear hbt hw0
  go_cut [199] from 25 to 219 (fun x wx => x = .bool bt ∧ wx = w0)
  case first =>
    by_cases c1 : a < r
    · have c1' : (a : Int) < (r : Int) := by omega
      by_cases c2 : r < mid
      · have c2' : (r : Int) < (mid : Int) := by omega
        have HB := Lib.hid (decide_eq_true (show a < r ∧ r < mid from ⟨c1, c2⟩))
        clear c1 c2
        go_wp2
        go_meet
        exact ⟨by rw [HBT.out, HB.out], HW0.out.symm⟩
      · have c2' : ¬ (r : Int) < (mid : Int) := by omega
        have HB := Lib.hid (decide_eq_false (show ¬ (a < r ∧ r < mid) from fun h => c2 h.2))
        clear c1 c2
        go_wp2
        go_meet
        exact ⟨by rw [HBT.out, HB.out], HW0.out.symm⟩
    · have c1' : ¬ (a : Int) < (r : Int) := by omega
      have HB := Lib.hid (decide_eq_false (show ¬ (a < r ∧ r < mid) from fun h => c1 h.1))
      clear c1
      go_wp2
      go_meet
      exact ⟨by rw [HBT.out, HB.out], HW0.out.symm⟩
  case rest =>
  obtain ⟨rfl, hwc⟩ := hcut
  rw [HW0.out] at hwc
  subst wc
  go_upto_if 199 with fail
  go_cut [] from 25 to 219 (fun wx => ∃ C : List Int, C.Perm (A.take (r - a) ++ B.take (e - m)) ∧ C.Pairwise (Bef c) ∧ RowZ W wx lo g cap n (P ++ (C ++ (A.drop (r - a) ++ (B.drop (e - m) ++ S)))))
  case first =>
    cases bt with
    | true =>
      have hb := of_decide_eq_true HBT.out.symm
      have HC2 := Lib.hid (ih.out a r mid _ _ _ _ _ w (by omega) hb.1 hb.2 HTU.out (HR.out.first HH.out))
      clear hb
      go_wp2_with fail
      refine HC2.out.mono ?_
      rintro e' w2 ⟨rfl, ys, ⟨C, hC1, hC2, hC3⟩, hr1⟩
      subst hC1
      have HF := Lib.hid (show ∃ C : List Int, C.Perm (A.take (r - a) ++ B.take (e - m)) ∧ C.Pairwise (Bef c) ∧ RowZ W w2 lo g cap n (P ++ (C ++ (A.drop (r - a) ++ (B.drop (e - m) ++ S)))) from ⟨C, hC2, hC3, hr1⟩)
      clear hC2 hC3 hr1
      go_wp2_with fail
      go_meet
      exact HF.out
    | false =>
      have hb := of_decide_eq_false HBT.out.symm
      have HF := Lib.hid (show ∃ C : List Int, C.Perm (A.take (r - a) ++ B.take (e - m)) ∧ C.Pairwise (Bef c) ∧ RowZ W w lo g cap n (P ++ (C ++ (A.drop (r - a) ++ (B.drop (e - m) ++ S)))) by
        obtain ⟨C, h1, h2, h3⟩ := (HR.out.first HH.out).nothing (by omega)
        refine ⟨C, h2, h3, ?_⟩
        rw [← h1]
        exact HTU.out)
      clear hb
      go_wp2_with fail
      go_meet
      exact HF.out
  case rest =>
  obtain ⟨C, hC2, hC3, hr2⟩ := hcut
  refine ‹∀ (a : Act) (w : World), Code.wp Try.prog _ (bodyPost _ _ _) a w → _› _ _ ?_
  exact merge_tail43 lo g cap n a m b gb mid r e c P A B S W _ hn k1 k2 k3 k4 hbn hmid [] [] [] [] C xs HR HH (Lib.hid hC2) (Lib.hid hC3) (Lib.hid hr2) ih _ _ _ _ _ _ _ _ _ _ _ _ _ _ _ _ _ _ _ _ _ _ _ _ _ _ _ _ _ _ _ _ _ _ _ _ _ _ _ _ _ _ _ _ _ _ _ _ _ _ _ _ _ _ _ _ _ _ _ _ _ _ _ _ _ _ _ _ _ _ _ _ _ _ _ _ _ _ _ _ _ _ _ _ _ _ _ _ _ _ _ _ _ _ _ _ _ _ _ _ _ _ _ _ _ _ _ _ _ _ _ _ _ _ _ _ _ _ _ _ _ _ _ _ _ _ _ _ _ _ _ _ _ _ _ _ _ _ _ _ _ _ _ _ _ _ _ _ _ _ _ _ _ _ _ _ _ _ _ _ _ _ _ _ _ _ _ _ _ _ _ _ _ _ _ _ _ _ _ _ _ _ _ _ _ _ _ _ _ _ _ _ _ _ _ _ _ _ _ _ _ _ _ _ _ _ _ _ _ _ _ _

noncomputable def tail39 : Code := (Try.f60.body.bind (fromRegion 39)).getD .skip
set_option maxHeartbeats 8000000 in
theorem merge_tail39 (lo g cap n a m b gb mid r e : Nat) (c : Int → Int) (P A B S : List Int) (W w : World) (hn : n ≤ 1000000) (k1 : a ≤ r) (k2 : r ≤ m) (k3 : m ≤ e) (k4 : e ≤ b) (hbn : b ≤ n) (hmid : a < mid ∧ mid < b) (xs : List Int) (HR : Hid (Runs c xs a m b P A B S)) (HH : Hid (Halves c a m b mid r e A B))
    (HRO : Hid (RowZ W w lo g cap n xs))
    (ih : Hid ( ∀ (a' m' b' : Nat) (xs P A B S : List Int) (w : World), b' - a' < b - a → a' < m' → m' < b' → RowZ W w lo g cap n xs → Runs c xs a' m' b' P A B S →
      Calls Try.prog 60 #[.slice (some ⟨g, 0, none⟩) n cap, .int .i64 a', .int .i64 m', .int .i64 b', .func (.func 24) #[] #[.pointer (some ⟨gb, 0, none⟩)]] w (MergeRes W lo g cap n c P A B S)))
    (c5 c6 c7 c8 c9 c10 c11 c12 c13 c14 c15 c16 c17 c19 c21 c22 c23 c25 c26 c27 c28 c29 c30 c31 c32 c33 c34 c35 c36 c37 c38 c39 c40 c41 c42 c43 c44 c45 c46 c47 c48 c49 c50 c51 c52 c53 c54 c55 c56 c57 c58 c59 c60 c61 c62 c63 c64 c65 c66 c67 c68 c69 c70 c71 c72 c73 c74 c75 c76 c77 c78 c79 c80 c81 c82 c83 c84 c85 c86 c87 c88 c89 c90 c91 c92 c93 c94 c95 c96 c97 c98 c99 c100 c101 c102 c103 c104 c105 c106 c107 c108 c109 c110 c111 c112 c113 c114 c115 c116 c117 c118 c119 c120 c121 c122 c123 c124 c125 c126 c127 c128 c129 c130 c131 c132 c133 c134 c135 c136 c137 c138 c139 c140 c141 c142 c143 c144 c145 c146 c147 c148 c149 c150 c151 c152 c153 c154 c155 c156 c157 c158 c159 c160 c161 c162 c163 c164 c165 c166 c167 c168 c169 c170 c171 c172 c173 c174 c175 c176 c177 c178 c179 c180 c181 c182 c183 c184 c185 c186 c187 c188 c189 c190 c191 c192 c193 c194 c195 c196 c197 c198 c199 c200 c201 c202 c203 c204 c205 c206 c207 c208 c209 c210 c211 c212 c213 c214 c215 c216 c217 c218 c219 : Value) :
    Code.wp Try.prog tail39 (bodyPost Try.prog Try.f60 (MergeRes W lo g cap n c P A B S)) ⟨List.toArray (.slice (some ⟨g, 0, none⟩) n cap :: .int .i64 a :: .int .i64 m :: .int .i64 b :: .func (.func 24) #[] #[.pointer (some ⟨gb, 0, none⟩)] :: c5 :: c6 :: c7 :: c8 :: c9 :: c10 :: c11 :: c12 :: c13 :: c14 :: c15 :: c16 :: c17 :: .int .i64 mid :: c19 :: .int .i64 r :: c21 :: c22 :: c23 :: .int .i64 e :: c25 :: c26 :: c27 :: c28 :: c29 :: c30 :: c31 :: c32 :: c33 :: c34 :: c35 :: c36 :: c37 :: c38 :: c39 :: c40 :: c41 :: c42 :: c43 :: c44 :: c45 :: c46 :: c47 :: c48 :: c49 :: c50 :: c51 :: c52 :: c53 :: c54 :: c55 :: c56 :: c57 :: c58 :: c59 :: c60 :: c61 :: c62 :: c63 :: c64 :: c65 :: c66 :: c67 :: c68 :: c69 :: c70 :: c71 :: c72 :: c73 :: c74 :: c75 :: c76 :: c77 :: c78 :: c79 :: c80 :: c81 :: c82 :: c83 :: c84 :: c85 :: c86 :: c87 :: c88 :: c89 :: c90 :: c91 :: c92 :: c93 :: c94 :: c95 :: c96 :: c97 :: c98 :: c99 :: c100 :: c101 :: c102 :: c103 :: c104 :: c105 :: c106 :: c107 :: c108 :: c109 :: c110 :: c111 :: c112 :: c113 :: c114 :: c115 :: c116 :: c117 :: c118 :: c119 :: c120 :: c121 :: c122 :: c123 :: c124 :: c125 :: c126 :: c127 :: c128 :: c129 :: c130 :: c131 :: c132 :: c133 :: c134 :: c135 :: c136 :: c137 :: c138 :: c139 :: c140 :: c141 :: c142 :: c143 :: c144 :: c145 :: c146 :: c147 :: c148 :: c149 :: c150 :: c151 :: c152 :: c153 :: c154 :: c155 :: c156 :: c157 :: c158 :: c159 :: c160 :: c161 :: c162 :: c163 :: c164 :: c165 :: c166 :: c167 :: c168 :: c169 :: c170 :: c171 :: c172 :: c173 :: c174 :: c175 :: c176 :: c177 :: c178 :: c179 :: c180 :: c181 :: c182 :: c183 :: c184 :: c185 :: c186 :: c187 :: c188 :: c189 :: c190 :: c191 :: c192 :: c193 :: c194 :: c195 :: c196 :: c197 :: c198 :: c199 :: c200 :: c201 :: c202 :: c203 :: c204 :: c205 :: c206 :: c207 :: c208 :: c209 :: c210 :: c211 :: c212 :: c213 :: c214 :: c215 :: c216 :: c217 :: c218 :: c219 :: []), []⟩ w := by
  conv => arg 2; whnf
  go_upto_region 39 with fail
  obtain ⟨bt, hbt⟩ : ∃ bt, bt = decide (r < m ∧ m < e) := ⟨_, rfl⟩
  have HBT := Lib.hid hbt
  obtain ⟨w0, hw0⟩ : ∃ w0, w0 = w := ⟨_, rfl⟩
  have HW0 := Lib.hid hw0
  clear hbt hw0
  go_cut [185] from 25 to 219 (fun x wx => x = .bool bt ∧ wx = w0)
  case first =>
    by_cases c1 : r < m
    · have c1' : (r : Int) < (m : Int) := by omega
      by_cases c2 : m < e
      · have c2' : (m : Int) < (e : Int) := by omega
        have HB := Lib.hid (decide_eq_true (show r < m ∧ m < e from ⟨c1, c2⟩))
        clear c1 c2
        go_wp2
        go_meet
        exact ⟨by rw [HBT.out, HB.out], HW0.out.symm⟩
      · have c2' : ¬ (m : Int) < (e : Int) := by omega
        have HB := Lib.hid (decide_eq_false (show ¬ (r < m ∧ m < e) from fun h => c2 h.2))
        clear c1 c2
        go_wp2
        go_meet
        exact ⟨by rw [HBT.out, HB.out], HW0.out.symm⟩
    · have c1' : ¬ (r : Int) < (m : Int) := by omega
      have HB := Lib.hid (decide_eq_false (show ¬ (r < m ∧ m < e) from fun h => c1 h.1))
      clear c1
      go_wp2
      go_meet
      exact ⟨by rw [HBT.out, HB.out], HW0.out.symm⟩
  case rest =>
  obtain ⟨rfl, hwc⟩ := hcut
  rw [HW0.out] at hwc
  subst wc
  go_upto_if 185 with fail
  go_cut [] from 25 to 219 (fun wx => RowZ W wx lo g cap n (turned P A B S (r - a) (e - m)))
  case first =>
    cases bt with
    | true =>
      have hb := of_decide_eq_true HBT.out.symm
      have HC2 := Lib.hid (rotate_calls lo g cap n r m e (.func (.func 24) #[] #[.pointer (some ⟨gb, 0, none⟩)]) xs _ _ _ _ _ W w HRO.out (HR.out.rot k1 k2 k3 k4) hb.1 hb.2 (by omega) hn)
      clear hb
      go_wp2_with fail
      refine HC2.out.mono ?_
      rintro e' w1 ⟨rfl, hr1⟩
      have HR1 := Lib.hid hr1
      clear hr1
      go_wp2_with fail
      go_meet
      exact HR1.out
    | false =>
      have hb := of_decide_eq_false HBT.out.symm
      have HR1 := Lib.hid (show RowZ W w lo g cap n (turned P A B S (r - a) (e - m)) by rw [← turned_same HR.out k1 k2 k3 k4 (by omega)]; exact HRO.out)
      clear hb
      go_wp2_with fail
      go_meet
      exact HR1.out
  case rest =>
  refine ‹∀ (a : Act) (w : World), Code.wp Try.prog _ (bodyPost _ _ _) a w → _› _ _ ?_
  exact merge_tail41 lo g cap n a m b gb mid r e c P A B S W _ hn k1 k2 k3 k4 hbn hmid xs HR HH (Lib.hid hcut) ih _ _ _ _ _ _ _ _ _ _ _ _ _ _ _ _ _ _ _ _ _ _ _ _ _ _ _ _ _ _ _ _ _ _ _ _ _ _ _ _ _ _ _ _ _ _ _ _ _ _ _ _ _ _ _ _ _ _ _ _ _ _ _ _ _ _ _ _ _ _ _ _ _ _ _ _ _ _ _ _ _ _ _ _ _ _ _ _ _ _ _ _ _ _ _ _ _ _ _ _ _ _ _ _ _ _ _ _ _ _ _ _ _ _ _ _ _ _ _ _ _ _ _ _ _ _ _ _ _ _ _ _ _ _ _ _ _ _ _ _ _ _ _ _ _ _ _ _ _ _ _ _ _ _ _ _ _ _ _ _ _ _ _ _ _ _ _ _ _ _ _ _ _ _ _ _ _ _ _ _ _ _ _ _ _ _ _ _ _ _ _ _ _ _ _ _ _ _ _ _ _ _ _ _ _ _ _ _ _ _ _ _
end Go.Proofs.Ytfgfbnmcihjfmaa

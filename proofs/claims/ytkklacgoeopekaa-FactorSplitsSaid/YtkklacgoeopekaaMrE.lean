/- The strong tests to the bases 2, 7 and 61 are exact below 2^32: plain Lean, no program in sight. -/
/- The strong tests to the bases 2, 7 and 61 are exact below 2^32: plain Lean, no program in sight. -/
import Derived.Test.YtkklacgoeopekaaMrK
namespace Go.Proofs.Ytkklacgoeopekaa.Mr
/-! ### the part of small primes: a search -/
def inv (L fuel : Nat) : Nat → Nat → Nat → Nat → Nat :=
  Nat.rec (motive := fun _ => Nat → Nat → Nat → Nat → Nat) (fun _ _ _ t1 => t1) (fun _ ih r0 r1 t0 t1 => cond (Nat.ble r1 1) t1
    (force (Nat.div r0 r1) fun q => force (Nat.mod r0 r1) fun r2 => force (Nat.mod (Nat.add t0 (Nat.mul q (Nat.sub L t1))) L) fun t2 => ih r1 r2 t1 t2)) fuel
def leaves (P L K : Nat) : Bool :=
  cond (Nat.beq (Nat.gcd P L) 1) (force (inv L 40 L (Nat.mod P L) 0 1) fun k0 => cond (Nat.beq (Nat.mod (Nat.mul P k0) L) (Nat.mod 1 L)) (cond (Nat.blt k0 L)
    (cond (Nat.ble k0 K) (force (Nat.succ (Nat.div (Nat.sub K k0) L)) fun c => force (Nat.mul P k0) fun n => force (Nat.mul P L) fun s => run s c n) true) false) false) true
def lcm' (a b : Nat) : Nat := Nat.div (Nat.mul a b) (Nat.gcd a b)
noncomputable def kids (f : Nat → Nat → List (Nat × Nat) → Bool) (P L : Nat) (l : List (Nat × Nat)) : Bool :=
  List.rec (motive := fun _ => Bool) true (fun x l ih => cond (force (Nat.mul P x.1) fun Q => cond (Nat.ble Q NM) (cond (Nat.beq (Nat.mod L x.1) 0) true (cond (Nat.beq (Nat.gcd x.2 P) 1) (force (lcm' L x.2) fun M => f Q M (x :: l)) true)) true) ih false) l
noncomputable def dfs (T fuel : Nat) : Nat → Nat → List (Nat × Nat) → Bool :=
  Nat.rec (motive := fun _ => Nat → Nat → List (Nat × Nat) → Bool) (fun _ _ _ => false) (fun _ ih P L l =>
    force (Nat.div NM P) fun K => cond (Nat.ble (Nat.div K L) T) (leaves P L K) (cond (leaf P) (kids ih P L l) false)) fuel

theorem leaves_ok {P L : Nat} (h : leaves P L (NM / P) = true) (hP : 0 < P) (hL : 0 < L) {k : Nat} (hk : 0 < k) (hle : P * k ≤ NM) (hd : L ∣ P * k - 1) : leaf (P * k) = true := by
  unfold leaves at h
  have hg : Nat.gcd P L = 1 := by
    have h1 : Nat.gcd P L ∣ P * k := Nat.dvd_trans (Nat.gcd_dvd_left _ _) (Nat.dvd_mul_right _ _)
    have h2 : Nat.gcd P L ∣ P * k - 1 := Nat.dvd_trans (Nat.gcd_dvd_right _ _) hd
    have hpos : 0 < P * k := Nat.mul_pos hP hk
    have h3 := Nat.dvd_sub h1 h2
    rw [show P * k - (P * k - 1) = 1 by omega] at h3
    exact Nat.dvd_one.1 h3
  rw [show Nat.beq (Nat.gcd P L) 1 = true from Nat.beq_eq.mpr hg] at h
  have h1 : force (inv L 40 L (Nat.mod P L) 0 1) (fun k0 => cond (Nat.beq (Nat.mod (Nat.mul P k0) L) (Nat.mod 1 L)) (cond (Nat.blt k0 L)
    (cond (Nat.ble k0 (NM / P)) (force (Nat.succ (Nat.div (Nat.sub (NM / P) k0) L)) fun c => force (Nat.mul P k0) fun n => force (Nat.mul P L) fun s => run s c n) true) false) false) = true := h
  rw [force_eq] at h1
  generalize inv L 40 L (Nat.mod P L) 0 1 = k0 at h1
  cases c1 : Nat.beq (Nat.mod (Nat.mul P k0) L) (Nat.mod 1 L)
  · rw [c1] at h1; cases h1
  rw [c1] at h1
  cases c2 : Nat.blt k0 L
  · rw [c2] at h1; cases h1
  rw [c2] at h1
  have e1 : P * k0 % L = 1 % L := Nat.eq_of_beq_eq_true c1
  have e2 : k0 < L := Nat.le_of_ble_eq_true c2
  have e3 : P * k % L = 1 % L := by
    have hpos : 0 < P * k := Nat.mul_pos hP hk
    exact (mod_of_dvd_sub (by omega) hd).symm
  have e4 : k % L = k0 := by
    rw [← Nat.mod_eq_of_lt e2]
    exact mul_cancel_mod (by rw [Nat.gcd_comm]; exact hg) (e3.trans e1.symm)
  have hkK : k ≤ NM / P := (Nat.le_div_iff_mul_le hP).2 (by rw [Nat.mul_comm]; exact hle)
  have hdm := Nat.div_add_mod k L
  rw [e4] at hdm
  have hk0 : k0 ≤ NM / P := by
    have : k0 ≤ k := by rw [← hdm]; exact Nat.le_add_left _ _
    omega
  rw [show Nat.ble k0 (NM / P) = true from Nat.ble_eq.mpr hk0] at h1
  have h2 : force (Nat.succ (Nat.div (Nat.sub (NM / P) k0) L)) (fun c => force (Nat.mul P k0) fun n => force (Nat.mul P L) fun s => run s c n) = true := h1
  rw [force_eq, force_eq, force_eq] at h2
  have h3 := run_ok _ _ h2 (k / L) (by
    show k / L < (NM / P - k0) / L + 1
    have : k / L ≤ (NM / P - k0) / L := (Nat.le_div_iff_mul_le hL).2 (by rw [Nat.mul_comm]; omega)
    omega)
  have e5 : Nat.mul P k0 + Nat.mul P L * (k / L) = P * k := by
    show P * k0 + P * L * (k / L) = P * k
    rw [Nat.mul_assoc, ← Nat.mul_add, Nat.add_comm, hdm]
  rw [e5] at h3
  exact h3

theorem lcm'_dvd {a b c : Nat} (h1 : a ∣ c) (h2 : b ∣ c) : lcm' a b ∣ c := Nat.lcm_dvd h1 h2
def Good (l : List (Nat × Nat)) : Prop := ∀ x ∈ l, 2 ≤ x.1 ∧ Ann x.1 x.2 ∧ 0 < x.2 ∧ x.1 % 2 = 1
def Kf (l : List (Nat × Nat)) (k : Nat) : Prop := ∀ q, Pr q → q ∣ k → ∃ x ∈ l, x.1 = q
/-- what a search says -/
def Says (f : Nat → Nat → List (Nat × Nat) → Bool) : Prop :=
  ∀ P L l, f P L l = true → Good l → 2 < P → P % 2 = 1 → 0 < L → ∀ k, 0 < k → k % 2 = 1 → P * k ≤ NM → Kf l k → L ∣ P * k - 1 → ¬ SP3 (P * k)
theorem kids_ok {f : Nat → Nat → List (Nat × Nat) → Bool} (hf : Says f) {P L : Nat} (hP : 0 < P) (hPo : P % 2 = 1) (hL : 0 < L) {k : Nat} (hk : 1 < k) (hko : k % 2 = 1) (hle : P * k ≤ NM) (hd : L ∣ P * k - 1) :
    ∀ l, kids f P L l = true → Good l → Kf l k → ¬ SP3 (P * k)
  | [], _, _, hK => by
    obtain ⟨q, hq, hqk⟩ := exists_prime_dvd k hk
    obtain ⟨x, hx, _⟩ := hK q hq hqk
    exact absurd hx List.not_mem_nil
  | (q, m) :: l, h, hG, hK => by
    have h' : cond (force (Nat.mul P q) fun Q => cond (Nat.ble Q NM) (cond (Nat.beq (Nat.mod L q) 0) true (cond (Nat.beq (Nat.gcd m P) 1) (force (lcm' L m) fun M => f Q M ((q, m) :: l)) true)) true) (kids f P L l) false = true := h
    rw [force_eq, force_eq] at h'
    cases hc : (cond (Nat.ble (Nat.mul P q) NM) (cond (Nat.beq (Nat.mod L q) 0) true (cond (Nat.beq (Nat.gcd m P) 1) (f (Nat.mul P q) (lcm' L m) ((q, m) :: l)) true)) true)
    · rw [hc] at h'; cases h'
    rw [hc] at h'
    have hrest : kids f P L l = true := h'
    by_cases hqk : q ∣ k
    · obtain ⟨k', hk'⟩ := hqk
      obtain ⟨q2, hA, hm0, hqo⟩ := hG (q, m) List.mem_cons_self
      have hk'0 : 0 < k' := by
        rcases Nat.eq_zero_or_pos k' with h0 | h0
        · subst h0; omega
        · exact h0
      have hPk : P * k = P * q * k' := by rw [hk', Nat.mul_assoc]
      have hpos : 0 < P * k := Nat.mul_pos hP (by omega)
      have h1 : P * q ≤ NM := Nat.le_trans (Nat.le_mul_of_pos_right _ hk'0) (hPk ▸ hle)
      intro hs
      have hn2 : 2 ≤ P * k := Nat.le_trans (Nat.le_trans hk (Nat.le_mul_of_pos_left k hP)) (Nat.le_refl _)
      have hu := hs.U3 hn2
      have hqn : q ∣ P * k := by rw [hPk]; exact Nat.dvd_trans (Nat.dvd_mul_left q P) (Nat.dvd_mul_right _ _)
      have hm := hA _ (hu.sub hqn)
      have hsub : ∀ d, d ∣ P * k → d ∣ P * k - 1 → d = 1 := fun d h1 h2 => by
        have h3 := Nat.dvd_sub h1 h2
        rw [show P * k - (P * k - 1) = 1 by omega] at h3
        exact Nat.dvd_one.1 h3
      have h2 : Nat.beq (Nat.mod L q) 0 = false := by
        cases hb : Nat.beq (Nat.mod L q) 0
        · rfl
        · have := hsub q hqn (Nat.dvd_trans (Nat.dvd_of_mod_eq_zero (Nat.eq_of_beq_eq_true hb)) hd)
          omega
      have h3 : Nat.gcd m P = 1 := hsub _ (Nat.dvd_trans (Nat.gcd_dvd_right m P) (Nat.dvd_mul_right _ _)) (Nat.dvd_trans (Nat.gcd_dvd_left m P) hm)
      rw [show Nat.ble (Nat.mul P q) NM = true from Nat.ble_eq.mpr h1, h2, show Nat.beq (Nat.gcd m P) 1 = true from Nat.beq_eq.mpr h3] at hc
      have hc' : f (P * q) (lcm' L m) ((q, m) :: l) = true := hc
      have hl0 : 0 < lcm' L m := Nat.lcm_pos hL hm0
      have hPq : 2 < P * q := by
        have : 3 ≤ q := by
          have h5 : q % 2 = 1 := hqo
          have h6 : 2 ≤ q := q2
          omega
        exact Nat.lt_of_lt_of_le this (Nat.le_mul_of_pos_left q hP)
      have hPqo : P * q % 2 = 1 := by rw [Nat.mul_mod, hPo, show q % 2 = 1 from hqo]
      have hk'o : k' % 2 = 1 := by
        rw [hk', Nat.mul_mod, show q % 2 = 1 from hqo, Nat.one_mul, Nat.mod_mod] at hko
        exact hko
      rw [hPk] at hs hd hm
      refine hf _ _ _ hc' hG hPq hPqo hl0 k' hk'0 hk'o (hPk ▸ hle) (fun r hr hrk => hK r hr (Nat.dvd_trans hrk ⟨q, by rw [hk', Nat.mul_comm]⟩)) (lcm'_dvd hd hm) hs
    · refine kids_ok hf hP hPo hL hk hko hle hd l hrest (fun x hx => hG x (List.mem_cons_of_mem _ hx)) fun r hr hrk => ?_
      obtain ⟨x, hx, hxr⟩ := hK r hr hrk
      rcases List.mem_cons.1 hx with rfl | hx
      · subst hxr
        exact absurd hrk hqk
      · exact ⟨x, hx, hxr⟩
theorem dfs_ok (T : Nat) : ∀ fuel, Says (dfs T fuel) := by
  intro fuel
  induction fuel with
  | zero => intro P L l h; cases h
  | succ fu ih =>
    intro P L l h hG hP hPo hL k hk hko hle hK hd
    have h' : force (Nat.div NM P) (fun K => cond (Nat.ble (Nat.div K L) T) (leaves P L K) (cond (leaf P) (kids (dfs T fu) P L l) false)) = true := h
    rw [force_eq] at h'
    have hPk2 : 2 < P * k := Nat.lt_of_lt_of_le hP (Nat.le_mul_of_pos_right P hk)
    have hPko : P * k % 2 = 1 := by rw [Nat.mul_mod, hPo, hko]
    cases hc : Nat.ble (Nat.div (Nat.div NM P) L) T
    · rw [hc] at h'
      have h2 : cond (leaf P) (kids (dfs T fu) P L l) false = true := h'
      cases hl : leaf P
      · rw [hl] at h2; cases h2
      rw [hl] at h2
      rcases Nat.lt_or_ge 1 k with h1 | h1
      · exact kids_ok ih (by omega) hPo hL h1 hko hle hd l h2 hG hK
      · obtain rfl : k = 1 := by omega
        rw [Nat.mul_one]
        exact leaf_ok hP hPo hl
    · rw [hc] at h'
      exact leaf_ok hPk2 hPko (leaves_ok h' (by omega) hL hk hle hd)

/-! the primes below 2048 other than 2, 7, 61, with their exponents -/
def spl : List (Nat × Nat) := [(2039, 2038), (2029, 2028), (2027, 2026), (2017, 1008), (2011, 2010), (2003, 2002), (1999, 1998), (1997, 1996), (1993, 1992), (1987, 1986), (1979, 1978), (1973, 1972), (1951, 975), (1949, 1948), (1933, 1932), (1931, 1930), (1913, 956), (1907, 1906), (1901, 1900), (1889, 1888), (1879, 939), (1877, 1876), (1873, 1872), (1871, 1870), (1867, 1866), (1861, 1860), (1847, 1846), (1831, 1830), (1823, 1822), (1811, 1810), (1801, 1800), (1789, 1788), (1787, 1786), (1783, 891), (1777, 1776), (1759, 1758), (1753, 1752), (1747, 1746), (1741, 1740), (1733, 1732), (1723, 1722), (1721, 1720), (1709, 1708), (1699, 1698), (1697, 1696), (1693, 1692), (1669, 1668), (1667, 1666), (1663, 1662), (1657, 552), (1637, 1636), (1627, 1626), (1621, 1620), (1619, 1618), (1613, 1612), (1609, 1608), (1607, 1606), (1601, 1600), (1597, 1596), (1583, 1582), (1579, 1578), (1571, 1570), (1567, 783), (1559, 779), (1553, 1552), (1549, 1548), (1543, 1542), (1531, 1530), (1523, 1522), (1511, 755), (1499, 1498), (1493, 1492), (1489, 1488), (1487, 1486), (1483, 1482), (1481, 1480), (1471, 1470), (1459, 1458), (1453, 1452), (1451, 1450), (1447, 1446), (1439, 1438), (1433, 1432), (1429, 1428), (1427, 1426), (1423, 474), (1409, 1408), (1399, 699), (1381, 1380), (1373, 1372), (1367, 1366), (1361, 1360), (1327, 1326), (1321, 1320), (1319, 1318), (1307, 1306), (1303, 1302), (1301, 1300), (1297, 648), (1291, 1290), (1289, 1288), (1283, 1282), (1279, 1278), (1277, 1276), (1259, 1258), (1249, 1248), (1237, 1236), (1231, 1230), (1229, 1228), (1223, 611), (1217, 1216), (1213, 1212), (1201, 600), (1193, 1192), (1187, 1186), (1181, 1180), (1171, 1170), (1163, 1162), (1153, 1152), (1151, 1150), (1129, 1128), (1123, 1122), (1117, 1116), (1109, 1108), (1103, 1102), (1097, 1096), (1093, 1092), (1091, 1090), (1087, 1086), (1069, 1068), (1063, 1062), (1061, 1060), (1051, 1050), (1049, 1048), (1039, 1038), (1033, 516), (1031, 1030), (1021, 1020), (1019, 1018), (1013, 1012), (1009, 1008), (997, 996), (991, 990), (983, 982), (977, 488), (971, 970), (967, 966), (953, 952), (947, 946), (941, 940), (937, 936), (929, 928), (919, 918), (911, 182), (907, 906), (887, 886), (883, 882), (881, 880), (877, 876), (863, 862), (859, 858), (857, 856), (853, 852), (839, 419), (829, 828), (827, 826), (823, 822), (821, 820), (811, 810), (809, 404), (797, 796), (787, 786), (773, 772), (769, 768), (761, 760), (757, 756), (751, 750), (743, 742), (739, 738), (733, 732), (727, 363), (719, 359), (709, 708), (701, 700), (691, 690), (683, 682), (677, 676), (673, 672), (661, 660), (659, 658), (653, 652), (647, 646), (643, 642), (641, 640), (631, 630), (619, 618), (617, 616), (613, 612), (607, 303), (601, 600), (599, 598), (593, 592), (587, 586), (577, 576), (571, 570), (569, 284), (563, 562), (557, 556), (547, 546), (541, 540), (523, 522), (521, 520), (509, 508), (503, 251), (499, 498), (491, 490), (487, 486), (479, 239), (467, 466), (463, 462), (461, 460), (457, 456), (449, 224), (443, 442), (439, 73), (433, 432), (431, 430), (421, 420), (419, 418), (409, 408), (401, 400), (397, 396), (389, 388), (383, 382), (379, 378), (373, 372), (367, 183), (359, 358), (353, 352), (349, 348), (347, 346), (337, 336), (331, 330), (317, 316), (313, 312), (311, 310), (307, 306), (293, 292), (283, 282), (281, 280), (277, 276), (271, 135), (269, 268), (263, 262), (257, 256), (251, 250), (241, 240), (239, 238), (233, 232), (229, 228), (227, 226), (223, 222), (211, 210), (199, 99), (197, 196), (193, 192), (191, 190), (181, 180), (179, 178), (173, 172), (167, 83), (163, 162), (157, 156), (151, 150), (149, 148), (139, 138), (137, 68), (131, 130), (127, 126), (113, 56), (109, 108), (107, 106), (103, 51), (101, 100), (97, 96), (89, 88), (83, 82), (79, 78), (73, 72), (71, 70), (67, 66), (59, 58), (53, 52), (47, 23), (43, 42), (41, 40), (37, 36), (31, 30), (29, 28), (23, 22), (19, 18), (17, 16), (13, 12), (11, 10), (5, 4), (3, 2)]
theorem spl_cert : spl.all (fun x => cert x.1 x.2 && Nat.beq (x.1 % 2) 1) = true := by decide +kernel
theorem spl_all : (List.range 2048).all (fun m => Nat.blt m 2 || Nat.beq m 2 || Nat.beq m 7 || Nat.beq m 61 || spl.any (fun x => Nat.beq x.1 m) || sps.any fun d => Nat.blt d m && Nat.beq (m % d) 0) = true := by decide +kernel
theorem spl_good : Good spl := fun x hx => by
  have h := List.all_eq_true.1 spl_cert x hx
  rw [Bool.and_eq_true] at h
  obtain ⟨a1, a2, _, a4⟩ := cert_ok h.1
  exact ⟨a1, a4, a2, Nat.eq_of_beq_eq_true h.2⟩
theorem spl_mem {q : Nat} (hq : Pr q) (h : q < 2048) (h2 : q ≠ 2) (h7 : q ≠ 7) (h61 : q ≠ 61) : ∃ x ∈ spl, x.1 = q := by
  have h1 := List.all_eq_true.1 spl_all q (List.mem_range.2 h)
  simp only [Bool.or_eq_true, List.any_eq_true, Bool.and_eq_true] at h1
  rcases h1 with ((((h1 | h1) | h1) | h1) | ⟨x, hx, h1⟩) | ⟨d, hd, h3, h4⟩
  · have := hq.1
    simp [Nat.blt] at h1
    omega
  · exact absurd (Nat.eq_of_beq_eq_true h1) h2
  · exact absurd (Nat.eq_of_beq_eq_true h1) h7
  · exact absurd (Nat.eq_of_beq_eq_true h1) h61
  · exact ⟨x, hx, Nat.eq_of_beq_eq_true h1⟩
  · have h5 := List.all_eq_true.1 sps_lt d hd
    simp [Nat.blt] at h5 h3
    rcases hq.2 d (Nat.dvd_of_mod_eq_zero (Nat.eq_of_beq_eq_true h4)) with h6 | h6 <;> omega

noncomputable def rootAt (T : Nat) (l : List (Nat × Nat)) : Bool := List.casesOn (motive := fun _ => Bool) l true fun x l => force (lcm' 2 x.2) fun L => kids (dfs T 24) x.1 L (x :: l)
/-- the c tails of the list from i on -/
noncomputable def roots (T c : Nat) : List (Nat × Nat) → Bool := Nat.rec (motive := fun _ => List (Nat × Nat) → Bool) (fun _ => true) (fun _ ih l => cond (rootAt T l) (ih (List.casesOn (motive := fun _ => List (Nat × Nat)) l [] fun _ l => l)) false) c
theorem roots_ok {T : Nat} : ∀ c l, roots T c l = true → ∀ i, i < c → rootAt T (l.drop i) = true := by
  intro c
  induction c with
  | zero => intro l _ i hi; omega
  | succ c ih =>
    intro l h i hi
    have h' : cond (rootAt T l) (roots T c (List.casesOn (motive := fun _ => List (Nat × Nat)) l [] fun _ l => l)) false = true := h
    cases hl : rootAt T l
    · rw [hl] at h'; cases h'
    · rw [hl] at h'
      cases i with
      | zero => exact hl
      | succ i =>
        have h2 := ih _ h' i (by omega)
        cases l with
        | nil => rw [List.drop_nil] at h2 ⊢; exact h2
        | cons x l => exact h2
theorem rootAt_ok {T : Nat} {l : List (Nat × Nat)} (hG : Good l) (h : ∀ i, i < l.length → rootAt T (l.drop i) = true) {n : Nat} (hn : n ≤ NM) (h2 : 2 < n) (hodd : n % 2 = 1) (hK : Kf l n) (hc : ¬ Pr n) : ¬ SP3 n := by
  intro hs
  induction l with
  | nil =>
    obtain ⟨q, hq, hqk⟩ := exists_prime_dvd n (by omega)
    obtain ⟨x, hx, _⟩ := hK q hq hqk
    exact absurd hx List.not_mem_nil
  | cons x l ih =>
    by_cases hx : x.1 ∣ n ∧ Pr x.1
    · obtain ⟨⟨k, hk⟩, hxp⟩ := hx
      have h1 := h 0 (by simp)
      have h1' : force (lcm' 2 x.2) (fun L => kids (dfs T 24) x.1 L (x :: l)) = true := h1
      rw [force_eq] at h1'
      obtain ⟨q2, hA, hm0, hqo⟩ := hG x List.mem_cons_self
      have hk1 : 1 < k := by
        rcases Nat.lt_or_ge 1 k with h3 | h3
        · exact h3
        · have : k = 0 ∨ k = 1 := by omega
          rcases this with h4 | h4
          · rw [h4] at hk; omega
          · rw [h4, Nat.mul_one] at hk
            exact absurd (hk ▸ hxp) hc
      have hko : k % 2 = 1 := by
        rw [hk, Nat.mul_mod, hqo, Nat.one_mul, Nat.mod_mod] at hodd
        exact hodd
      have hu := hs.U3 (by omega)
      have hd : lcm' 2 x.2 ∣ x.1 * k - 1 := by
        rw [← hk]
        exact lcm'_dvd (by omega) (hA _ (hu.sub ⟨k, hk⟩))
      refine kids_ok (dfs_ok T 24) (by omega) hqo (Nat.lcm_pos (by omega) hm0) hk1 hko (hk ▸ hn) hd _ h1' hG (fun q hq hqk => hK q hq (hk ▸ Nat.dvd_trans hqk (Nat.dvd_mul_left _ _))) (hk ▸ hs)
    · refine ih (fun y hy => hG y (List.mem_cons_of_mem _ hy)) (fun i hi => ?_) fun q hq hqn => ?_
      · have := h (i + 1) (by simp; omega)
        exact this
      · obtain ⟨y, hy, hyq⟩ := hK q hq hqn
        rcases List.mem_cons.1 hy with rfl | hy
        · exact absurd ⟨hyq ▸ hqn, hyq ▸ hq⟩ hx
        · exact ⟨y, hy, hyq⟩
end Go.Proofs.Ytkklacgoeopekaa.Mr

namespace Go.Proofs.Ytkklacgoeopekaa.Mr
/-! ### a prime above 65536 -/
/-- the product of the primes among lo, lo + 2, .. (2 ^ f of them) that are above 255 -/
def tree (f : Nat) : Nat → Nat := Nat.rec (motive := fun _ => Nat → Nat) (fun lo => cond (Nat.beq (Nat.gcd lo Z2) 1) lo 1) (fun f ih lo => force (ih lo) fun a => force (Nat.add lo (Nat.shiftLeft 2 f)) fun lo2 => force (ih lo2) fun b => Nat.mul a b) f
theorem tree_succ (f lo : Nat) : tree (f + 1) lo = tree f lo * tree f (lo + 2 * 2 ^ f) := by
  have h : tree (f + 1) lo = force (tree f lo) fun a => force (Nat.add lo (Nat.shiftLeft 2 f)) fun lo2 => force (tree f lo2) fun b => Nat.mul a b := rfl
  rw [h, force_eq, force_eq, force_eq]
  have e : Nat.shiftLeft 2 f = 2 * 2 ^ f := by show 2 <<< f = _; rw [Nat.shiftLeft_eq]
  rw [e]
  rfl
theorem tree_dvd {q : Nat} (hq : Pr q) : ∀ f lo, q ∣ tree f lo → q < lo + 2 * 2 ^ f ∨ False := by
  intro f
  induction f with
  | zero =>
    intro lo h
    left
    have h' : q ∣ cond (Nat.beq (Nat.gcd lo Z2) 1) lo 1 := h
    have hq1 := hq.1
    cases hb : Nat.beq (Nat.gcd lo Z2) 1
    · rw [hb] at h'
      have h5 : q ∣ 1 := h'
      have := Nat.le_of_dvd (by omega) h5
      omega
    · rw [hb] at h'
      have h6 : q ∣ lo := h'
      rcases Nat.eq_zero_or_pos lo with h0 | h0
      · subst h0
        rw [Nat.gcd_zero_left] at hb
        exact absurd (Nat.eq_of_beq_eq_true hb) (by decide)
      · have := Nat.le_of_dvd h0 h6
        omega
  | succ f ih =>
    intro lo h
    rw [tree_succ] at h
    have hp : 2 ^ (f + 1) = 2 * 2 ^ f := by rw [Nat.pow_succ]; omega
    rcases hq.dvd_mul h with h1 | h1
    · rcases ih lo h1 with h2 | h2
      · left; omega
      · exact h2.elim
    · rcases ih _ h1 with h2 | h2
      · left; omega
      · exact h2.elim
theorem tree_mem {q : Nat} (hq : Nat.gcd q Z2 = 1) : ∀ f lo, lo ≤ q → q < lo + 2 * 2 ^ f → (q - lo) % 2 = 0 → q ∣ tree f lo := by
  intro f
  induction f with
  | zero =>
    intro lo h1 h2 h3
    obtain rfl : q = lo := by omega
    show q ∣ cond (Nat.beq (Nat.gcd q Z2) 1) q 1
    rw [hq]
    exact Nat.dvd_refl q
  | succ f ih =>
    intro lo h1 h2 h3
    rw [tree_succ]
    have hp : 2 ^ (f + 1) = 2 * 2 ^ f := by rw [Nat.pow_succ]; omega
    rcases Nat.lt_or_ge q (lo + 2 * 2 ^ f) with h4 | h4
    · exact Nat.dvd_trans (ih lo h1 h4 h3) (Nat.dvd_mul_right _ _)
    · exact Nat.dvd_trans (ih _ h4 (by omega) (by omega)) (Nat.dvd_mul_left _ _)
/-- the product of all primes below 65536 -/
def Zp : Nat := Nat.mul Z2 (tree 15 1)
theorem Zp_dvd {q : Nat} (hq : Pr q) (h : q ∣ Zp) : q < 65536 + 1 := by
  have h' : q ∣ Z2 * tree 15 1 := h
  rcases hq.dvd_mul h' with h1 | h1
  · have := prime_dvd_Z2 hq h1; omega
  · rcases tree_dvd hq 15 1 h1 with h2 | h2
    · omega
    · exact h2.elim
theorem Zp_mem {q : Nat} (hq : Pr q) (h : q < 65536) : q ∣ Zp := by
  show q ∣ Z2 * tree 15 1
  rcases Nat.lt_or_ge q 256 with h1 | h1
  · exact Nat.dvd_trans (sps_Z2 (mem_sps hq h1)) (Nat.dvd_mul_right _ _)
  · have hg : Nat.gcd q Z2 = 1 := hq.coprime fun hd => by have := prime_dvd_Z2 hq hd; omega
    have hodd : q % 2 = 1 := by
      rcases Nat.mod_two_eq_zero_or_one q with h2 | h2
      · rcases hq.2 2 (Nat.dvd_of_mod_eq_zero h2) with h3 | h3 <;> omega
      · exact h2
    exact Nat.dvd_trans (tree_mem hg 15 1 (by omega) (by omega) (by omega)) (Nat.dvd_mul_left _ _)
def strip (Z fuel : Nat) : Nat → Nat := Nat.rec (motive := fun _ => Nat → Nat) (fun r => r) (fun _ ih r => force (Nat.gcd r Z) fun g => cond (Nat.beq g 1) r (force (Nat.div r g) ih)) fuel
theorem strip_dvd {q Z : Nat} (hq : Pr q) (hZ : ¬ q ∣ Z) : ∀ fuel r, 0 < r → q ∣ r → q ∣ strip Z fuel r ∧ 0 < strip Z fuel r := by
  intro fuel
  induction fuel with
  | zero => intro r h0 h; exact ⟨h, h0⟩
  | succ f ih =>
    intro r h0 h
    have e : strip Z (f + 1) r = cond (Nat.beq (Nat.gcd r Z) 1) r (strip Z f (r / Nat.gcd r Z)) := by
      have h : strip Z (f + 1) r = force (Nat.gcd r Z) fun g => cond (Nat.beq g 1) r (force (Nat.div r g) (strip Z f)) := rfl
      rw [h, force_eq, force_eq]
      rfl
    rw [e]
    cases Nat.beq (Nat.gcd r Z) 1
    · obtain ⟨c, hc⟩ := Nat.gcd_dvd_left r Z
      have hg : 0 < Nat.gcd r Z := Nat.gcd_pos_of_pos_left _ h0
      have e2 : r / Nat.gcd r Z = c := by
        conv => lhs; arg 1; rw [hc]
        exact Nat.mul_div_cancel_left _ hg
      have hc0 : 0 < c := by
        rcases Nat.eq_zero_or_pos c with h1 | h1
        · rw [h1, Nat.mul_zero] at hc; omega
        · exact h1
      show q ∣ strip Z f (r / Nat.gcd r Z) ∧ _
      rw [e2]
      refine ih c hc0 ?_
      rw [hc] at h
      rcases hq.dvd_mul h with h1 | h1
      · exact absurd (Nat.dvd_trans h1 (Nat.gcd_dvd_right _ _)) hZ
      · exact h1
    · exact ⟨h, h0⟩
def bigs : List (Nat × Nat) := [(76129, 114193), (65881, 72469), (68881, 206641), (74257, 148513), (75289, 94111), (78121, 156241), (66041, 118873), (85201, 149101), (72469, 92233), (71443, 95257), (96233, 144349), (99793, 498961), (91801, 110161), (113017, 197779), (80263, 229321), (80761, 181711), (110503, 245561), (93739, 187477)]
def okp (k p : Nat) : Bool := force (Nat.mul p k) fun n => cond (Nat.ble n NM) (leaf n) true
noncomputable def chkA (Z k : Nat) : Bool :=
  force (Nat.pred k) fun e => force (Nat.gcd (Nat.gcd (Nat.pred (Nat.pow 2 e)) (Nat.pred (Nat.pow 7 e))) (Nat.pred (Nat.pow 61 e))) fun G => force (strip Z 40 G) fun R =>
    cond (Nat.beq R 1) true (cond (Nat.beq (Nat.gcd R Z) 1) (cond (Nat.ble R NM) (okp k R)
      (List.rec (motive := fun _ => Bool) false (fun x _ ih => cond (Nat.beq R (Nat.mul x.1 x.2)) (Nat.ble x.1 NM && Nat.ble x.2 NM && okp k x.1 && okp k x.2) ih) bigs)) false)
/-- whatever has no prime below 65536 and is less than 2^32 is a prime -/
theorem pr_of_coprime2 {r : Nat} (h2 : 2 ≤ r) (h : r ≤ NM) (hg : ∀ q, Pr q → q ∣ r → 65536 ≤ q) : Pr r := by
  obtain ⟨q, hq, c, hc⟩ := exists_prime_dvd r h2
  have hq1 := hg q hq ⟨c, hc⟩
  rcases Nat.lt_or_ge c 2 with hc2 | hc2
  · have : c = 1 := by
      rcases Nat.eq_zero_or_pos c with h0 | h0
      · subst h0; omega
      · omega
    subst this
    rw [Nat.mul_one] at hc
    rw [hc]
    exact hq
  · obtain ⟨q2, hq2, hq3⟩ := exists_prime_dvd c hc2
    have h5 := hg q2 hq2 (Nat.dvd_trans hq3 ⟨q, by rw [hc, Nat.mul_comm]⟩)
    have h6 := Nat.le_of_dvd (by omega) hq3
    have : 65536 * 65536 ≤ q * c := Nat.mul_le_mul hq1 (by omega)
    unfold NM at h
    omega
theorem okp_ok {k p : Nat} (h : okp k p = true) (hp : 2 < p) (hpo : p % 2 = 1) (hk : 0 < k) (hko : k % 2 = 1) (hle : p * k ≤ NM) : ¬ SP3 (p * k) := by
  unfold okp at h
  rw [force_eq] at h
  have h' : cond (Nat.ble (p * k) NM) (leaf (p * k)) true = true := h
  rw [show Nat.ble (p * k) NM = true from Nat.ble_eq.mpr hle] at h'
  exact leaf_ok (Nat.lt_of_lt_of_le hp (Nat.le_mul_of_pos_right p hk)) (by rw [Nat.mul_mod, hpo, hko]) h'
theorem U.dvd_pred {p a e : Nat} (h : U p a e) : p ∣ a ^ e - 1 := dvd_sub_of_mod h.symm
theorem bigs_ok {k R p : Nat} (hp : Pr p) (hpR : p ∣ R) (hR : ∀ q, Pr q → q ∣ R → 65536 ≤ q) (hk : 0 < k) (hko : k % 2 = 1) (hle : p * k ≤ NM) (hR2 : 2 ≤ R) : ∀ l : List (Nat × Nat),
    List.rec (motive := fun _ => Bool) false (fun x _ ih => cond (Nat.beq R (Nat.mul x.1 x.2)) (Nat.ble x.1 NM && Nat.ble x.2 NM && okp k x.1 && okp k x.2) ih) l = true → ¬ SP3 (p * k)
  | [], h => by cases h
  | x :: l, h => by
    have h' : cond (Nat.beq R (x.1 * x.2)) (Nat.ble x.1 NM && Nat.ble x.2 NM && okp k x.1 && okp k x.2) (List.rec (motive := fun _ => Bool) false (fun x _ ih => cond (Nat.beq R (Nat.mul x.1 x.2)) (Nat.ble x.1 NM && Nat.ble x.2 NM && okp k x.1 && okp k x.2) ih) l) = true := h
    cases hb : Nat.beq R (x.1 * x.2)
    · rw [hb] at h'
      exact bigs_ok hp hpR hR hk hko hle hR2 l h'
    · rw [hb] at h'
      have hRx := Nat.eq_of_beq_eq_true hb
      have h2 : (Nat.ble x.1 NM && Nat.ble x.2 NM && okp k x.1 && okp k x.2) = true := h'
      simp only [Bool.and_eq_true] at h2
      obtain ⟨⟨⟨b1, b2⟩, b3⟩, b4⟩ := h2
      have hp65 := hR p hp hpR
      have hodd : p % 2 = 1 := by
        rcases Nat.mod_two_eq_zero_or_one p with h2 | h2
        · rcases hp.2 2 (Nat.dvd_of_mod_eq_zero h2) with h3 | h3 <;> omega
        · exact h2
      rw [hRx] at hpR
      have key : ∀ y z, x.1 * x.2 = y * z → y ≤ NM → p ∣ y → p = y := fun y z hyz hy hpy => by
        have hy2 : 2 ≤ y := by
          rcases Nat.lt_or_ge y 2 with h0 | h0
          · have : y = 0 ∨ y = 1 := by omega
            rcases this with h1 | h1
            · rw [h1, Nat.zero_mul] at hyz; omega
            · rw [h1] at hpy; have := Nat.le_of_dvd (by omega) hpy; omega
          · exact h0
        have hpr := pr_of_coprime2 hy2 hy fun q hq hqy => hR q hq (by rw [hRx, hyz]; exact Nat.dvd_trans hqy (Nat.dvd_mul_right _ _))
        rcases hpr.2 p hpy with h1 | h1
        · omega
        · exact h1
      rcases hp.dvd_mul hpR with h3 | h3
      · have := key x.1 x.2 rfl (Nat.le_of_ble_eq_true b1) h3
        rw [← this] at b3
        exact okp_ok b3 (by omega) hodd hk hko hle
      · have := key x.2 x.1 (Nat.mul_comm _ _) (Nat.le_of_ble_eq_true b2) h3
        rw [← this] at b4
        exact okp_ok b4 (by omega) hodd hk hko hle
theorem chkA_ok {k p : Nat} (h : chkA Zp k = true) (hp : Pr p) (hp65 : 65536 < p) (hk : 1 < k) (hko : k % 2 = 1) (hle : p * k ≤ NM) : ¬ SP3 (p * k) := by
  intro hs
  unfold chkA at h
  rw [force_eq, force_eq, force_eq] at h
  have hu0 := (hs.U3 (Nat.le_trans hp.1 (Nat.le_mul_of_pos_right p (by omega)))).sub (Nat.dvd_mul_right p k)
  have e1 : p * k - 1 = (p - 1) * k + (k - 1) := by
    obtain ⟨q, rfl⟩ : ∃ q, p = q + 1 := ⟨p - 1, by omega⟩
    rw [Nat.add_mul]
    simp
    omega
  have hf : ∀ a, 0 < a → a < 65536 → U p a ((p - 1) * k) := fun a h0 h1 => U.mul (flt hp fun hd => by have := Nat.le_of_dvd h0 hd; omega) k
  rw [e1] at hu0
  have hu : U3 p (k - 1) := U3.of_add ⟨hf 2 (by omega) (by omega), hf 7 (by omega) (by omega), hf 61 (by omega) (by omega)⟩ hu0
  obtain ⟨G, hG⟩ : ∃ G, Nat.gcd (Nat.gcd (Nat.pred (Nat.pow 2 (Nat.pred k))) (Nat.pred (Nat.pow 7 (Nat.pred k)))) (Nat.pred (Nat.pow 61 (Nat.pred k))) = G := ⟨_, rfl⟩
  rw [hG] at h
  have hpG : p ∣ G := by
    rw [← hG]
    exact Nat.dvd_gcd (Nat.dvd_gcd hu.1.dvd_pred hu.2.1.dvd_pred) hu.2.2.dvd_pred
  have hG0 : 0 < G := by
    rw [← hG]
    refine Nat.gcd_pos_of_pos_left _ (Nat.gcd_pos_of_pos_left _ ?_)
    have : 2 ^ 1 ≤ 2 ^ (k - 1) := Nat.pow_le_pow_right (by omega) (by omega)
    show 0 < 2 ^ (k - 1) - 1
    omega
  have hZ : ¬ p ∣ Zp := fun hd => by have := Zp_dvd hp hd; omega
  obtain ⟨hR, hR0⟩ := strip_dvd hp hZ 40 G hG0 hpG
  generalize strip Zp 40 G = R at h hR hR0
  have hpR := Nat.le_of_dvd hR0 hR
  have c1 : Nat.beq R 1 = false := by
    cases hb : Nat.beq R 1
    · rfl
    · have := Nat.eq_of_beq_eq_true hb; omega
  rw [c1] at h
  cases c2 : Nat.beq (Nat.gcd R Zp) 1
  · rw [c2] at h; cases h
  rw [c2] at h
  have hcop := Nat.eq_of_beq_eq_true c2
  have hRq : ∀ q, Pr q → q ∣ R → 65536 ≤ q := fun q hq hqR => by
    rcases Nat.lt_or_ge q 65536 with h3 | h3
    · have := Nat.dvd_gcd hqR (Zp_mem hq h3)
      rw [hcop] at this
      have := Nat.le_of_dvd (by omega) this
      have := hq.1
      omega
    · exact h3
  have hodd : p % 2 = 1 := by
    rcases Nat.mod_two_eq_zero_or_one p with h2 | h2
    · rcases hp.2 2 (Nat.dvd_of_mod_eq_zero h2) with h3 | h3 <;> omega
    · exact h2
  cases c3 : Nat.ble R NM
  · rw [c3] at h
    exact bigs_ok hp hR hRq (by omega) hko hle (by omega) bigs h hs
  · rw [c3] at h
    have hpr := pr_of_coprime2 (by omega) (Nat.le_of_ble_eq_true c3) hRq
    rcases hpr.2 p hR with h1 | h1
    · omega
    · rw [h1] at hs hle hodd
      exact okp_ok h (by omega) hodd (by omega) hko hle hs
noncomputable def loopA (Z c : Nat) : Nat → Bool := Nat.rec (motive := fun _ => Nat → Bool) (fun _ => true) (fun _ ih k => force k fun k => cond (chkA Z k) (ih (Nat.add k 2)) false) c
noncomputable def partA (c k : Nat) : Bool := force Zp fun Z => loopA Z c k
theorem loopA_ok {Z : Nat} : ∀ c k, loopA Z c k = true → ∀ i, i < c → chkA Z (k + 2 * i) = true := by
  intro c
  induction c with
  | zero => intro k _ i hi; omega
  | succ c ih =>
    intro k h i hi
    have h' : cond (chkA Z k) (loopA Z c (k + 2)) false = true := by
      have : loopA Z (c + 1) k = force k fun k => cond (chkA Z k) (loopA Z c (Nat.add k 2)) false := rfl
      rw [this, force_eq] at h
      exact h
    cases hl : chkA Z k
    · rw [hl] at h'; cases h'
    · rw [hl] at h'
      cases i with
      | zero => exact hl
      | succ i =>
        have := ih (k + 2) h' i (by omega)
        rw [show k + 2 * (i + 1) = k + 2 + 2 * i by omega]
        exact this
theorem partA_ok {c k : Nat} (h : partA c k = true) : ∀ i, i < c → chkA Zp (k + 2 * i) = true := by
  unfold partA at h
  rw [force_eq] at h
  exact loopA_ok c k h
end Go.Proofs.Ytkklacgoeopekaa.Mr

/- Each text is what the program's code says; the table is good. -/
import Derived.Test.YtpmajhocoepajaaGreatDoorMvT
import Derived.Test.YtpmajhocoepajaaGreatDoorProg
import Derived.KernelRfl
set_option linter.unusedVariables false
set_option maxRecDepth 100000
namespace Go.Am
def plF (l : List (Nat × Plan)) (id : Nat) : Option Plan := (l.find? (·.1 == id)).map (·.2)
theorem e3 : denFun Go.Proofs.Tryz.prog (plF pl3) 3 = some c3 := by kernel_rfl
theorem e4 : denFunS Go.Proofs.Tryz.prog pl4.1 (plF pl4.2) 4 = some c4 := by kernel_rfl
theorem e5 : denFunS Go.Proofs.Tryz.prog pl5.1 (plF pl5.2) 5 = some c5 := by kernel_rfl
theorem e6 : denFunS Go.Proofs.Tryz.prog pl6.1 (plF pl6.2) 6 = some c6 := by kernel_rfl
theorem e7 : denFunS Go.Proofs.Tryz.prog pl7.1 (plF pl7.2) 7 = some c7 := by kernel_rfl
theorem e8 : denFunS Go.Proofs.Tryz.prog pl8.1 (plF pl8.2) 8 = some c8 := by kernel_rfl
theorem e9 : denFunS Go.Proofs.Tryz.prog pl9.1 (plF pl9.2) 9 = some c9 := by kernel_rfl
theorem e10 : denFunS Go.Proofs.Tryz.prog pl10.1 (plF pl10.2) 10 = some c10 := by kernel_rfl
theorem e11 : denFunS Go.Proofs.Tryz.prog pl11.1 (plF pl11.2) 11 = some c11 := by kernel_rfl
theorem e12 : denFunS Go.Proofs.Tryz.prog pl12.1 (plF pl12.2) 12 = some c12 := by kernel_rfl
theorem e13 : denFunS Go.Proofs.Tryz.prog pl13.1 (plF pl13.2) 13 = some c13 := by kernel_rfl
theorem e14 : denFunS Go.Proofs.Tryz.prog pl14.1 (plF pl14.2) 14 = some c14 := by kernel_rfl
theorem e15 : denFunS Go.Proofs.Tryz.prog pl15.1 (plF pl15.2) 15 = some c15 := by kernel_rfl
theorem e16 : denFunS Go.Proofs.Tryz.prog pl16.1 (plF pl16.2) 16 = some c16 := by kernel_rfl
theorem e17 : denFunS Go.Proofs.Tryz.prog pl17.1 (plF pl17.2) 17 = some c17 := by kernel_rfl
theorem e18 : denFunS Go.Proofs.Tryz.prog pl18.1 (plF pl18.2) 18 = some c18 := by kernel_rfl
theorem e19 : denFunS Go.Proofs.Tryz.prog pl19.1 (plF pl19.2) 19 = some c19 := by kernel_rfl
theorem e20 : denFunS Go.Proofs.Tryz.prog pl20.1 (plF pl20.2) 20 = some c20 := by kernel_rfl
theorem e21 : denFunS Go.Proofs.Tryz.prog pl21.1 (plF pl21.2) 21 = some c21 := by kernel_rfl
theorem e22 : denFunS Go.Proofs.Tryz.prog pl22.1 (plF pl22.2) 22 = some c22 := by kernel_rfl
theorem e23 : denFunS Go.Proofs.Tryz.prog pl23.1 (plF pl23.2) 23 = some c23 := by kernel_rfl
theorem e24 : denFunS Go.Proofs.Tryz.prog pl24.1 (plF pl24.2) 24 = some c24 := by kernel_rfl
theorem e25 : denFunS Go.Proofs.Tryz.prog pl25.1 (plF pl25.2) 25 = some c25 := by kernel_rfl
theorem e26 : denFunS Go.Proofs.Tryz.prog pl26.1 (plF pl26.2) 26 = some c26 := by kernel_rfl
theorem e27 : denFunS Go.Proofs.Tryz.prog pl27.1 (plF pl27.2) 27 = some c27 := by kernel_rfl
theorem e28 : denFunS Go.Proofs.Tryz.prog pl28.1 (plF pl28.2) 28 = some c28 := by kernel_rfl
theorem e29 : denFunS Go.Proofs.Tryz.prog pl29.1 (plF pl29.2) 29 = some c29 := by kernel_rfl
theorem e30 : denFunS Go.Proofs.Tryz.prog pl30.1 (plF pl30.2) 30 = some c30 := by kernel_rfl
theorem e31 : denFunS Go.Proofs.Tryz.prog pl31.1 (plF pl31.2) 31 = some c31 := by kernel_rfl
theorem e32 : denFunS Go.Proofs.Tryz.prog pl32.1 (plF pl32.2) 32 = some c32 := by kernel_rfl
theorem e33 : denFunS Go.Proofs.Tryz.prog pl33.1 (plF pl33.2) 33 = some c33 := by kernel_rfl
theorem e34 : denFunS Go.Proofs.Tryz.prog pl34.1 (plF pl34.2) 34 = some c34 := by kernel_rfl
theorem e35 : denFunS Go.Proofs.Tryz.prog pl35.1 (plF pl35.2) 35 = some c35 := by kernel_rfl
theorem e36 : denFunS Go.Proofs.Tryz.prog pl36.1 (plF pl36.2) 36 = some c36 := by kernel_rfl
theorem e37 : denFunS Go.Proofs.Tryz.prog pl37.1 (plF pl37.2) 37 = some c37 := by kernel_rfl
theorem e38 : denFunS Go.Proofs.Tryz.prog pl38.1 (plF pl38.2) 38 = some c38 := by kernel_rfl
theorem e39 : denFunS Go.Proofs.Tryz.prog pl39.1 (plF pl39.2) 39 = some c39 := by kernel_rfl
theorem e40 : denFunS Go.Proofs.Tryz.prog pl40.1 (plF pl40.2) 40 = some c40 := by kernel_rfl
theorem e41 : denFunS Go.Proofs.Tryz.prog pl41.1 (plF pl41.2) 41 = some c41 := by kernel_rfl
theorem e42 : denFunS Go.Proofs.Tryz.prog pl42.1 (plF pl42.2) 42 = some c42 := by kernel_rfl
theorem e43 : denFunS Go.Proofs.Tryz.prog pl43.1 (plF pl43.2) 43 = some c43 := by kernel_rfl
theorem e44 : denFunS Go.Proofs.Tryz.prog pl44.1 (plF pl44.2) 44 = some c44 := by kernel_rfl
theorem e45 : denFunS Go.Proofs.Tryz.prog pl45.1 (plF pl45.2) 45 = some c45 := by kernel_rfl
theorem e46 : denFunS Go.Proofs.Tryz.prog pl46.1 (plF pl46.2) 46 = some c46 := by kernel_rfl
theorem e47 : denFunS Go.Proofs.Tryz.prog pl47.1 (plF pl47.2) 47 = some c47 := by kernel_rfl
theorem e48 : denFunS Go.Proofs.Tryz.prog pl48.1 (plF pl48.2) 48 = some c48 := by kernel_rfl
theorem e49 : denFunS Go.Proofs.Tryz.prog pl49.1 (plF pl49.2) 49 = some c49 := by kernel_rfl
theorem e50 : denFunS Go.Proofs.Tryz.prog pl50.1 (plF pl50.2) 50 = some c50 := by kernel_rfl
theorem e51 : denFunS Go.Proofs.Tryz.prog pl51.1 (plF pl51.2) 51 = some c51 := by kernel_rfl
theorem e52 : denFunS Go.Proofs.Tryz.prog pl52.1 (plF pl52.2) 52 = some c52 := by kernel_rfl
theorem e53 : denFunS Go.Proofs.Tryz.prog pl53.1 (plF pl53.2) 53 = some c53 := by kernel_rfl
theorem e54 : denFunS Go.Proofs.Tryz.prog pl54.1 (plF pl54.2) 54 = some c54 := by kernel_rfl
theorem e55 : denFunS Go.Proofs.Tryz.prog pl55.1 (plF pl55.2) 55 = some c55 := by kernel_rfl
theorem e56 : denFunS Go.Proofs.Tryz.prog pl56.1 (plF pl56.2) 56 = some c56 := by kernel_rfl
theorem e57 : denFunS Go.Proofs.Tryz.prog pl57.1 (plF pl57.2) 57 = some c57 := by kernel_rfl
theorem e58 : denFunS Go.Proofs.Tryz.prog pl58.1 (plF pl58.2) 58 = some c58 := by kernel_rfl
theorem e59 : denFunS Go.Proofs.Tryz.prog pl59.1 (plF pl59.2) 59 = some c59 := by kernel_rfl
theorem e60 : denFunS Go.Proofs.Tryz.prog pl60.1 (plF pl60.2) 60 = some c60 := by kernel_rfl
theorem e62 : denFunS Go.Proofs.Tryz.prog pl62.1 (plF pl62.2) 62 = some c62 := by kernel_rfl
theorem e65 : denFunS Go.Proofs.Tryz.prog pl65.1 (plF pl65.2) 65 = some c65 := by kernel_rfl
theorem e66 : denFunS Go.Proofs.Tryz.prog pl66.1 (plF pl66.2) 66 = some c66 := by kernel_rfl
theorem e67 : denFunS Go.Proofs.Tryz.prog pl67.1 (plF pl67.2) 67 = some c67 := by kernel_rfl
theorem e68 : denFunS Go.Proofs.Tryz.prog pl68.1 (plF pl68.2) 68 = some c68 := by kernel_rfl
theorem e69 : denFunS Go.Proofs.Tryz.prog pl69.1 (plF pl69.2) 69 = some c69 := by kernel_rfl
theorem e70 : denFunS Go.Proofs.Tryz.prog pl70.1 (plF pl70.2) 70 = some c70 := by kernel_rfl
theorem e71 : denFunS Go.Proofs.Tryz.prog pl71.1 (plF pl71.2) 71 = some c71 := by kernel_rfl
theorem e72 : denFunS Go.Proofs.Tryz.prog pl72.1 (plF pl72.2) 72 = some c72 := by kernel_rfl
theorem e73 : denFunS Go.Proofs.Tryz.prog pl73.1 (plF pl73.2) 73 = some c73 := by kernel_rfl
theorem e74 : denFunS Go.Proofs.Tryz.prog pl74.1 (plF pl74.2) 74 = some c74 := by kernel_rfl
theorem e75 : denFunS Go.Proofs.Tryz.prog pl75.1 (plF pl75.2) 75 = some c75 := by kernel_rfl
theorem e76 : denFunS Go.Proofs.Tryz.prog pl76.1 (plF pl76.2) 76 = some c76 := by kernel_rfl
theorem e77 : denFunS Go.Proofs.Tryz.prog pl77.1 (plF pl77.2) 77 = some c77 := by kernel_rfl
theorem e78 : denFunS Go.Proofs.Tryz.prog pl78.1 (plF pl78.2) 78 = some c78 := by kernel_rfl
theorem e79 : denFunS Go.Proofs.Tryz.prog pl79.1 (plF pl79.2) 79 = some c79 := by kernel_rfl
theorem e80 : denFunS Go.Proofs.Tryz.prog pl80.1 (plF pl80.2) 80 = some c80 := by kernel_rfl
theorem e81 : denFunS Go.Proofs.Tryz.prog pl81.1 (plF pl81.2) 81 = some c81 := by kernel_rfl
theorem e82 : denFunS Go.Proofs.Tryz.prog pl82.1 (plF pl82.2) 82 = some c82 := by kernel_rfl
theorem e83 : denFunS Go.Proofs.Tryz.prog pl83.1 (plF pl83.2) 83 = some c83 := by kernel_rfl
theorem e85 : denFunS Go.Proofs.Tryz.prog pl85.1 (plF pl85.2) 85 = some c85 := by kernel_rfl
theorem e86 : denFunS Go.Proofs.Tryz.prog pl86.1 (plF pl86.2) 86 = some c86 := by kernel_rfl
theorem e88 : denFunS Go.Proofs.Tryz.prog pl88.1 (plF pl88.2) 88 = some c88 := by kernel_rfl
theorem e89 : denFunS Go.Proofs.Tryz.prog pl89.1 (plF pl89.2) 89 = some c89 := by kernel_rfl
theorem e91 : denFunS Go.Proofs.Tryz.prog pl91.1 (plF pl91.2) 91 = some c91 := by kernel_rfl
theorem e92 : denFunS Go.Proofs.Tryz.prog pl92.1 (plF pl92.2) 92 = some c92 := by kernel_rfl
theorem e93 : denFunS Go.Proofs.Tryz.prog pl93.1 (plF pl93.2) 93 = some c93 := by kernel_rfl
theorem e94 : denFunS Go.Proofs.Tryz.prog pl94.1 (plF pl94.2) 94 = some c94 := by kernel_rfl
theorem e95 : denFunS Go.Proofs.Tryz.prog pl95.1 (plF pl95.2) 95 = some c95 := by kernel_rfl
theorem e96 : denFunS Go.Proofs.Tryz.prog pl96.1 (plF pl96.2) 96 = some c96 := by kernel_rfl
theorem e97 : denFunS Go.Proofs.Tryz.prog pl97.1 (plF pl97.2) 97 = some c97 := by kernel_rfl
theorem e98 : denFunS Go.Proofs.Tryz.prog pl98.1 (plF pl98.2) 98 = some c98 := by kernel_rfl
theorem e100 : denFunS Go.Proofs.Tryz.prog pl100.1 (plF pl100.2) 100 = some c100 := by kernel_rfl
theorem e101 : denFunS Go.Proofs.Tryz.prog pl101.1 (plF pl101.2) 101 = some c101 := by kernel_rfl
theorem e102 : denFunS Go.Proofs.Tryz.prog pl102.1 (plF pl102.2) 102 = some c102 := by kernel_rfl
theorem e103 : denFunS Go.Proofs.Tryz.prog pl103.1 (plF pl103.2) 103 = some c103 := by kernel_rfl
theorem e104 : denFunS Go.Proofs.Tryz.prog pl104.1 (plF pl104.2) 104 = some c104 := by kernel_rfl
theorem e105 : denFunS Go.Proofs.Tryz.prog pl105.1 (plF pl105.2) 105 = some c105 := by kernel_rfl
theorem e106 : denFunS Go.Proofs.Tryz.prog pl106.1 (plF pl106.2) 106 = some c106 := by kernel_rfl
theorem e107 : denFunS Go.Proofs.Tryz.prog pl107.1 (plF pl107.2) 107 = some c107 := by kernel_rfl
theorem e108 : denFunS Go.Proofs.Tryz.prog pl108.1 (plF pl108.2) 108 = some c108 := by kernel_rfl
theorem e109 : denFunS Go.Proofs.Tryz.prog pl109.1 (plF pl109.2) 109 = some c109 := by kernel_rfl
theorem e110 : denFunS Go.Proofs.Tryz.prog pl110.1 (plF pl110.2) 110 = some c110 := by kernel_rfl
theorem e111 : denFunS Go.Proofs.Tryz.prog pl111.1 (plF pl111.2) 111 = some c111 := by kernel_rfl
theorem e112 : denFunS Go.Proofs.Tryz.prog pl112.1 (plF pl112.2) 112 = some c112 := by kernel_rfl
theorem e113 : denFunS Go.Proofs.Tryz.prog pl113.1 (plF pl113.2) 113 = some c113 := by kernel_rfl
theorem e114 : denFunS Go.Proofs.Tryz.prog pl114.1 (plF pl114.2) 114 = some c114 := by kernel_rfl
theorem e115 : denFunS Go.Proofs.Tryz.prog pl115.1 (plF pl115.2) 115 = some c115 := by kernel_rfl
theorem e116 : denFunS Go.Proofs.Tryz.prog pl116.1 (plF pl116.2) 116 = some c116 := by kernel_rfl
theorem e117 : denFunS Go.Proofs.Tryz.prog pl117.1 (plF pl117.2) 117 = some c117 := by kernel_rfl
theorem e118 : denFunS Go.Proofs.Tryz.prog pl118.1 (plF pl118.2) 118 = some c118 := by kernel_rfl
theorem e119 : denFunS Go.Proofs.Tryz.prog pl119.1 (plF pl119.2) 119 = some c119 := by kernel_rfl
theorem e120 : denFunS Go.Proofs.Tryz.prog pl120.1 (plF pl120.2) 120 = some c120 := by kernel_rfl
theorem e121 : denFunS Go.Proofs.Tryz.prog pl121.1 (plF pl121.2) 121 = some c121 := by kernel_rfl
theorem e123 : denFunS Go.Proofs.Tryz.prog pl123.1 (plF pl123.2) 123 = some c123 := by kernel_rfl
theorem e124 : denFunS Go.Proofs.Tryz.prog pl124.1 (plF pl124.2) 124 = some c124 := by kernel_rfl
theorem e125 : denFunS Go.Proofs.Tryz.prog pl125.1 (plF pl125.2) 125 = some c125 := by kernel_rfl
theorem e126 : denFunS Go.Proofs.Tryz.prog pl126.1 (plF pl126.2) 126 = some c126 := by kernel_rfl
theorem e127 : denFunS Go.Proofs.Tryz.prog pl127.1 (plF pl127.2) 127 = some c127 := by kernel_rfl
theorem e128 : denFunS Go.Proofs.Tryz.prog pl128.1 (plF pl128.2) 128 = some c128 := by kernel_rfl
theorem e129 : denFunS Go.Proofs.Tryz.prog pl129.1 (plF pl129.2) 129 = some c129 := by kernel_rfl
theorem e130 : denFunS Go.Proofs.Tryz.prog pl130.1 (plF pl130.2) 130 = some c130 := by kernel_rfl
theorem e131 : denFunS Go.Proofs.Tryz.prog pl131.1 (plF pl131.2) 131 = some c131 := by kernel_rfl
theorem e132 : denFunS Go.Proofs.Tryz.prog pl132.1 (plF pl132.2) 132 = some c132 := by kernel_rfl
theorem e133 : denFunS Go.Proofs.Tryz.prog pl133.1 (plF pl133.2) 133 = some c133 := by kernel_rfl
theorem e134 : denFunS Go.Proofs.Tryz.prog pl134.1 (plF pl134.2) 134 = some c134 := by kernel_rfl
theorem e135 : denFunS Go.Proofs.Tryz.prog pl135.1 (plF pl135.2) 135 = some c135 := by kernel_rfl
theorem e136 : denFunS Go.Proofs.Tryz.prog pl136.1 (plF pl136.2) 136 = some c136 := by kernel_rfl
theorem e137 : denFunS Go.Proofs.Tryz.prog pl137.1 (plF pl137.2) 137 = some c137 := by kernel_rfl
theorem e138 : denFunS Go.Proofs.Tryz.prog pl138.1 (plF pl138.2) 138 = some c138 := by kernel_rfl
theorem e139 : denFunS Go.Proofs.Tryz.prog pl139.1 (plF pl139.2) 139 = some c139 := by kernel_rfl
theorem e140 : denFunS Go.Proofs.Tryz.prog pl140.1 (plF pl140.2) 140 = some c140 := by kernel_rfl
theorem e141 : denFunS Go.Proofs.Tryz.prog pl141.1 (plF pl141.2) 141 = some c141 := by kernel_rfl
theorem e142 : denFunS Go.Proofs.Tryz.prog pl142.1 (plF pl142.2) 142 = some c142 := by kernel_rfl
theorem e143 : denFunS Go.Proofs.Tryz.prog pl143.1 (plF pl143.2) 143 = some c143 := by kernel_rfl
theorem e147 : denFunS Go.Proofs.Tryz.prog pl147.1 (plF pl147.2) 147 = some c147 := by kernel_rfl
theorem e148 : denFunS Go.Proofs.Tryz.prog pl148.1 (plF pl148.2) 148 = some c148 := by kernel_rfl
theorem e149 : denFunS Go.Proofs.Tryz.prog pl149.1 (plF pl149.2) 149 = some c149 := by kernel_rfl
theorem e150 : denFunS Go.Proofs.Tryz.prog pl150.1 (plF pl150.2) 150 = some c150 := by kernel_rfl
theorem e153 : denFunS Go.Proofs.Tryz.prog pl153.1 (plF pl153.2) 153 = some c153 := by kernel_rfl
theorem e154 : denFunS Go.Proofs.Tryz.prog pl154.1 (plF pl154.2) 154 = some c154 := by kernel_rfl
theorem e155 : denFunS Go.Proofs.Tryz.prog pl155.1 (plF pl155.2) 155 = some c155 := by kernel_rfl
theorem e156 : denFunS Go.Proofs.Tryz.prog pl156.1 (plF pl156.2) 156 = some c156 := by kernel_rfl
theorem e157 : denFunS Go.Proofs.Tryz.prog pl157.1 (plF pl157.2) 157 = some c157 := by kernel_rfl
theorem e158 : denFunS Go.Proofs.Tryz.prog pl158.1 (plF pl158.2) 158 = some c158 := by kernel_rfl
theorem e159 : denFunS Go.Proofs.Tryz.prog pl159.1 (plF pl159.2) 159 = some c159 := by kernel_rfl
theorem e160 : denFunS Go.Proofs.Tryz.prog pl160.1 (plF pl160.2) 160 = some c160 := by kernel_rfl
theorem e161 : denFunS Go.Proofs.Tryz.prog pl161.1 (plF pl161.2) 161 = some c161 := by kernel_rfl
theorem e162 : denFunS Go.Proofs.Tryz.prog pl162.1 (plF pl162.2) 162 = some c162 := by kernel_rfl
theorem e163 : denFunS Go.Proofs.Tryz.prog pl163.1 (plF pl163.2) 163 = some c163 := by kernel_rfl
theorem e167 : denFunS Go.Proofs.Tryz.prog pl167.1 (plF pl167.2) 167 = some c167 := by kernel_rfl
theorem e168 : denFunS Go.Proofs.Tryz.prog pl168.1 (plF pl168.2) 168 = some c168 := by kernel_rfl
theorem e172 : denFunS Go.Proofs.Tryz.prog pl172.1 (plF pl172.2) 172 = some c172 := by kernel_rfl
theorem e173 : denFunS Go.Proofs.Tryz.prog pl173.1 (plF pl173.2) 173 = some c173 := by kernel_rfl
theorem e174 : denFunS Go.Proofs.Tryz.prog pl174.1 (plF pl174.2) 174 = some c174 := by kernel_rfl
theorem e175 : denFunS Go.Proofs.Tryz.prog pl175.1 (plF pl175.2) 175 = some c175 := by kernel_rfl
theorem e176 : denFunS Go.Proofs.Tryz.prog pl176.1 (plF pl176.2) 176 = some c176 := by kernel_rfl
theorem e177 : denFunS Go.Proofs.Tryz.prog pl177.1 (plF pl177.2) 177 = some c177 := by kernel_rfl
theorem e178 : denFunS Go.Proofs.Tryz.prog pl178.1 (plF pl178.2) 178 = some c178 := by kernel_rfl
theorem e179 : denFunS Go.Proofs.Tryz.prog pl179.1 (plF pl179.2) 179 = some c179 := by kernel_rfl
theorem e181 : denFunS Go.Proofs.Tryz.prog pl181.1 (plF pl181.2) 181 = some c181 := by kernel_rfl
theorem e182 : denFunS Go.Proofs.Tryz.prog pl182.1 (plF pl182.2) 182 = some c182 := by kernel_rfl
theorem e183 : denFunS Go.Proofs.Tryz.prog pl183.1 (plF pl183.2) 183 = some c183 := by kernel_rfl
theorem e184 : denFunS Go.Proofs.Tryz.prog pl184.1 (plF pl184.2) 184 = some c184 := by kernel_rfl
theorem e185 : denFunS Go.Proofs.Tryz.prog pl185.1 (plF pl185.2) 185 = some c185 := by kernel_rfl
theorem e186 : denFunS Go.Proofs.Tryz.prog pl186.1 (plF pl186.2) 186 = some c186 := by kernel_rfl
theorem e189 : denFunS Go.Proofs.Tryz.prog pl189.1 (plF pl189.2) 189 = some c189 := by kernel_rfl
theorem e195 : denFunS Go.Proofs.Tryz.prog pl195.1 (plF pl195.2) 195 = some c195 := by kernel_rfl
theorem e196 : denFunS Go.Proofs.Tryz.prog pl196.1 (plF pl196.2) 196 = some c196 := by kernel_rfl
theorem e197 : denFunS Go.Proofs.Tryz.prog pl197.1 (plF pl197.2) 197 = some c197 := by kernel_rfl
theorem e198 : denFunS Go.Proofs.Tryz.prog pl198.1 (plF pl198.2) 198 = some c198 := by kernel_rfl
theorem e200 : denFunS Go.Proofs.Tryz.prog pl200.1 (plF pl200.2) 200 = some c200 := by kernel_rfl
theorem e201 : denFunS Go.Proofs.Tryz.prog pl201.1 (plF pl201.2) 201 = some c201 := by kernel_rfl
theorem e211 : denFunS Go.Proofs.Tryz.prog pl211.1 (plF pl211.2) 211 = some c211 := by kernel_rfl
theorem e212 : denFunS Go.Proofs.Tryz.prog pl212.1 (plF pl212.2) 212 = some c212 := by kernel_rfl
theorem e213 : denFunS Go.Proofs.Tryz.prog pl213.1 (plF pl213.2) 213 = some c213 := by kernel_rfl
theorem e219 : denFunS Go.Proofs.Tryz.prog pl219.1 (plF pl219.2) 219 = some c219 := by kernel_rfl
theorem e223 : denFunS Go.Proofs.Tryz.prog pl223.1 (plF pl223.2) 223 = some c223 := by kernel_rfl
theorem e227 : denFunS Go.Proofs.Tryz.prog pl227.1 (plF pl227.2) 227 = some c227 := by kernel_rfl
theorem e228 : denFunS Go.Proofs.Tryz.prog pl228.1 (plF pl228.2) 228 = some c228 := by kernel_rfl
theorem e236 : denFunS Go.Proofs.Tryz.prog pl236.1 (plF pl236.2) 236 = some c236 := by kernel_rfl
theorem e237 : denFunS Go.Proofs.Tryz.prog pl237.1 (plF pl237.2) 237 = some c237 := by kernel_rfl
theorem e247 : denFunS Go.Proofs.Tryz.prog pl247.1 (plF pl247.2) 247 = some c247 := by kernel_rfl
theorem e255 : denFunS Go.Proofs.Tryz.prog pl255.1 (plF pl255.2) 255 = some c255 := by kernel_rfl
theorem e256 : denFunS Go.Proofs.Tryz.prog pl256.1 (plF pl256.2) 256 = some c256 := by kernel_rfl
theorem e259 : denFunS Go.Proofs.Tryz.prog pl259.1 (plF pl259.2) 259 = some c259 := by kernel_rfl
theorem e260 : denFunS Go.Proofs.Tryz.prog pl260.1 (plF pl260.2) 260 = some c260 := by kernel_rfl
section
variable {S : FuncId → List AVal → Heap → AVal → Heap → Prop}
theorem gs0 : GS Go.Proofs.Tryz.prog S sel0 := GS.node (GS.leaf (denFun_good e3)) (GS.leaf (denFunS_good e4))
theorem gs1 : GS Go.Proofs.Tryz.prog S sel1 := GS.node (GS.leaf (denFunS_good e6)) (GS.leaf (denFunS_good e7))
theorem gs2 : GS Go.Proofs.Tryz.prog S sel2 := GS.node (GS.leaf (denFunS_good e5)) gs1
theorem gs3 : GS Go.Proofs.Tryz.prog S sel3 := GS.node gs0 gs2
theorem gs4 : GS Go.Proofs.Tryz.prog S sel4 := GS.node (GS.leaf (denFunS_good e9)) (GS.leaf (denFunS_good e10))
theorem gs5 : GS Go.Proofs.Tryz.prog S sel5 := GS.node (GS.leaf (denFunS_good e8)) gs4
theorem gs6 : GS Go.Proofs.Tryz.prog S sel6 := GS.node (GS.leaf (denFunS_good e12)) (GS.leaf (denFunS_good e13))
theorem gs7 : GS Go.Proofs.Tryz.prog S sel7 := GS.node (GS.leaf (denFunS_good e11)) gs6
theorem gs8 : GS Go.Proofs.Tryz.prog S sel8 := GS.node gs5 gs7
theorem gs9 : GS Go.Proofs.Tryz.prog S sel9 := GS.node gs3 gs8
theorem gs10 : GS Go.Proofs.Tryz.prog S sel10 := GS.node (GS.leaf (denFunS_good e15)) (GS.leaf (denFunS_good e16))
theorem gs11 : GS Go.Proofs.Tryz.prog S sel11 := GS.node (GS.leaf (denFunS_good e14)) gs10
theorem gs12 : GS Go.Proofs.Tryz.prog S sel12 := GS.node (GS.leaf (denFunS_good e18)) (GS.leaf (denFunS_good e19))
theorem gs13 : GS Go.Proofs.Tryz.prog S sel13 := GS.node (GS.leaf (denFunS_good e17)) gs12
theorem gs14 : GS Go.Proofs.Tryz.prog S sel14 := GS.node gs11 gs13
theorem gs15 : GS Go.Proofs.Tryz.prog S sel15 := GS.node (GS.leaf (denFunS_good e21)) (GS.leaf (denFunS_good e22))
theorem gs16 : GS Go.Proofs.Tryz.prog S sel16 := GS.node (GS.leaf (denFunS_good e20)) gs15
theorem gs17 : GS Go.Proofs.Tryz.prog S sel17 := GS.node (GS.leaf (denFunS_good e24)) (GS.leaf (denFunS_good e25))
theorem gs18 : GS Go.Proofs.Tryz.prog S sel18 := GS.node (GS.leaf (denFunS_good e23)) gs17
theorem gs19 : GS Go.Proofs.Tryz.prog S sel19 := GS.node gs16 gs18
theorem gs20 : GS Go.Proofs.Tryz.prog S sel20 := GS.node gs14 gs19
theorem gs21 : GS Go.Proofs.Tryz.prog S sel21 := GS.node gs9 gs20
theorem gs22 : GS Go.Proofs.Tryz.prog S sel22 := GS.node (GS.leaf (denFunS_good e26)) (GS.leaf (denFunS_good e27))
theorem gs23 : GS Go.Proofs.Tryz.prog S sel23 := GS.node (GS.leaf (denFunS_good e29)) (GS.leaf (denFunS_good e30))
theorem gs24 : GS Go.Proofs.Tryz.prog S sel24 := GS.node (GS.leaf (denFunS_good e28)) gs23
theorem gs25 : GS Go.Proofs.Tryz.prog S sel25 := GS.node gs22 gs24
theorem gs26 : GS Go.Proofs.Tryz.prog S sel26 := GS.node (GS.leaf (denFunS_good e32)) (GS.leaf (denFunS_good e33))
theorem gs27 : GS Go.Proofs.Tryz.prog S sel27 := GS.node (GS.leaf (denFunS_good e31)) gs26
theorem gs28 : GS Go.Proofs.Tryz.prog S sel28 := GS.node (GS.leaf (denFunS_good e35)) (GS.leaf (denFunS_good e36))
theorem gs29 : GS Go.Proofs.Tryz.prog S sel29 := GS.node (GS.leaf (denFunS_good e34)) gs28
theorem gs30 : GS Go.Proofs.Tryz.prog S sel30 := GS.node gs27 gs29
theorem gs31 : GS Go.Proofs.Tryz.prog S sel31 := GS.node gs25 gs30
theorem gs32 : GS Go.Proofs.Tryz.prog S sel32 := GS.node (GS.leaf (denFunS_good e38)) (GS.leaf (denFunS_good e39))
theorem gs33 : GS Go.Proofs.Tryz.prog S sel33 := GS.node (GS.leaf (denFunS_good e37)) gs32
theorem gs34 : GS Go.Proofs.Tryz.prog S sel34 := GS.node (GS.leaf (denFunS_good e41)) (GS.leaf (denFunS_good e42))
theorem gs35 : GS Go.Proofs.Tryz.prog S sel35 := GS.node (GS.leaf (denFunS_good e40)) gs34
theorem gs36 : GS Go.Proofs.Tryz.prog S sel36 := GS.node gs33 gs35
theorem gs37 : GS Go.Proofs.Tryz.prog S sel37 := GS.node (GS.leaf (denFunS_good e44)) (GS.leaf (denFunS_good e45))
theorem gs38 : GS Go.Proofs.Tryz.prog S sel38 := GS.node (GS.leaf (denFunS_good e43)) gs37
theorem gs39 : GS Go.Proofs.Tryz.prog S sel39 := GS.node (GS.leaf (denFunS_good e47)) (GS.leaf (denFunS_good e48))
theorem gs40 : GS Go.Proofs.Tryz.prog S sel40 := GS.node (GS.leaf (denFunS_good e46)) gs39
theorem gs41 : GS Go.Proofs.Tryz.prog S sel41 := GS.node gs38 gs40
theorem gs42 : GS Go.Proofs.Tryz.prog S sel42 := GS.node gs36 gs41
theorem gs43 : GS Go.Proofs.Tryz.prog S sel43 := GS.node gs31 gs42
theorem gs44 : GS Go.Proofs.Tryz.prog S sel44 := GS.node gs21 gs43
theorem gs45 : GS Go.Proofs.Tryz.prog S sel45 := GS.node (GS.leaf (denFunS_good e49)) (GS.leaf (denFunS_good e50))
theorem gs46 : GS Go.Proofs.Tryz.prog S sel46 := GS.node (GS.leaf (denFunS_good e52)) (GS.leaf (denFunS_good e53))
theorem gs47 : GS Go.Proofs.Tryz.prog S sel47 := GS.node (GS.leaf (denFunS_good e51)) gs46
theorem gs48 : GS Go.Proofs.Tryz.prog S sel48 := GS.node gs45 gs47
theorem gs49 : GS Go.Proofs.Tryz.prog S sel49 := GS.node (GS.leaf (denFunS_good e55)) (GS.leaf (denFunS_good e56))
theorem gs50 : GS Go.Proofs.Tryz.prog S sel50 := GS.node (GS.leaf (denFunS_good e54)) gs49
theorem gs51 : GS Go.Proofs.Tryz.prog S sel51 := GS.node (GS.leaf (denFunS_good e58)) (GS.leaf (denFunS_good e59))
theorem gs52 : GS Go.Proofs.Tryz.prog S sel52 := GS.node (GS.leaf (denFunS_good e57)) gs51
theorem gs53 : GS Go.Proofs.Tryz.prog S sel53 := GS.node gs50 gs52
theorem gs54 : GS Go.Proofs.Tryz.prog S sel54 := GS.node gs48 gs53
theorem gs55 : GS Go.Proofs.Tryz.prog S sel55 := GS.node (GS.leaf (denFunS_good e62)) (GS.leaf (denFunS_good e65))
theorem gs56 : GS Go.Proofs.Tryz.prog S sel56 := GS.node (GS.leaf (denFunS_good e60)) gs55
theorem gs57 : GS Go.Proofs.Tryz.prog S sel57 := GS.node (GS.leaf (denFunS_good e67)) (GS.leaf (denFunS_good e68))
theorem gs58 : GS Go.Proofs.Tryz.prog S sel58 := GS.node (GS.leaf (denFunS_good e66)) gs57
theorem gs59 : GS Go.Proofs.Tryz.prog S sel59 := GS.node gs56 gs58
theorem gs60 : GS Go.Proofs.Tryz.prog S sel60 := GS.node (GS.leaf (denFunS_good e70)) (GS.leaf (denFunS_good e71))
theorem gs61 : GS Go.Proofs.Tryz.prog S sel61 := GS.node (GS.leaf (denFunS_good e69)) gs60
theorem gs62 : GS Go.Proofs.Tryz.prog S sel62 := GS.node (GS.leaf (denFunS_good e73)) (GS.leaf (denFunS_good e74))
theorem gs63 : GS Go.Proofs.Tryz.prog S sel63 := GS.node (GS.leaf (denFunS_good e72)) gs62
theorem gs64 : GS Go.Proofs.Tryz.prog S sel64 := GS.node gs61 gs63
theorem gs65 : GS Go.Proofs.Tryz.prog S sel65 := GS.node gs59 gs64
theorem gs66 : GS Go.Proofs.Tryz.prog S sel66 := GS.node gs54 gs65
theorem gs67 : GS Go.Proofs.Tryz.prog S sel67 := GS.node (GS.leaf (denFunS_good e75)) (GS.leaf (denFunS_good e76))
theorem gs68 : GS Go.Proofs.Tryz.prog S sel68 := GS.node (GS.leaf (denFunS_good e78)) (GS.leaf (denFunS_good e79))
theorem gs69 : GS Go.Proofs.Tryz.prog S sel69 := GS.node (GS.leaf (denFunS_good e77)) gs68
theorem gs70 : GS Go.Proofs.Tryz.prog S sel70 := GS.node gs67 gs69
theorem gs71 : GS Go.Proofs.Tryz.prog S sel71 := GS.node (GS.leaf (denFunS_good e81)) (GS.leaf (denFunS_good e82))
theorem gs72 : GS Go.Proofs.Tryz.prog S sel72 := GS.node (GS.leaf (denFunS_good e80)) gs71
theorem gs73 : GS Go.Proofs.Tryz.prog S sel73 := GS.node (GS.leaf (denFunS_good e85)) (GS.leaf (denFunS_good e86))
theorem gs74 : GS Go.Proofs.Tryz.prog S sel74 := GS.node (GS.leaf (denFunS_good e83)) gs73
theorem gs75 : GS Go.Proofs.Tryz.prog S sel75 := GS.node gs72 gs74
theorem gs76 : GS Go.Proofs.Tryz.prog S sel76 := GS.node gs70 gs75
theorem gs77 : GS Go.Proofs.Tryz.prog S sel77 := GS.node (GS.leaf (denFunS_good e89)) (GS.leaf (denFunS_good e91))
theorem gs78 : GS Go.Proofs.Tryz.prog S sel78 := GS.node (GS.leaf (denFunS_good e88)) gs77
theorem gs79 : GS Go.Proofs.Tryz.prog S sel79 := GS.node (GS.leaf (denFunS_good e93)) (GS.leaf (denFunS_good e94))
theorem gs80 : GS Go.Proofs.Tryz.prog S sel80 := GS.node (GS.leaf (denFunS_good e92)) gs79
theorem gs81 : GS Go.Proofs.Tryz.prog S sel81 := GS.node gs78 gs80
theorem gs82 : GS Go.Proofs.Tryz.prog S sel82 := GS.node (GS.leaf (denFunS_good e96)) (GS.leaf (denFunS_good e97))
theorem gs83 : GS Go.Proofs.Tryz.prog S sel83 := GS.node (GS.leaf (denFunS_good e95)) gs82
theorem gs84 : GS Go.Proofs.Tryz.prog S sel84 := GS.node (GS.leaf (denFunS_good e100)) (GS.leaf (denFunS_good e101))
theorem gs85 : GS Go.Proofs.Tryz.prog S sel85 := GS.node (GS.leaf (denFunS_good e98)) gs84
theorem gs86 : GS Go.Proofs.Tryz.prog S sel86 := GS.node gs83 gs85
theorem gs87 : GS Go.Proofs.Tryz.prog S sel87 := GS.node gs81 gs86
theorem gs88 : GS Go.Proofs.Tryz.prog S sel88 := GS.node gs76 gs87
theorem gs89 : GS Go.Proofs.Tryz.prog S sel89 := GS.node gs66 gs88
theorem gs90 : GS Go.Proofs.Tryz.prog S sel90 := GS.node gs44 gs89
theorem gs91 : GS Go.Proofs.Tryz.prog S sel91 := GS.node (GS.leaf (denFunS_good e102)) (GS.leaf (denFunS_good e103))
theorem gs92 : GS Go.Proofs.Tryz.prog S sel92 := GS.node (GS.leaf (denFunS_good e105)) (GS.leaf (denFunS_good e106))
theorem gs93 : GS Go.Proofs.Tryz.prog S sel93 := GS.node (GS.leaf (denFunS_good e104)) gs92
theorem gs94 : GS Go.Proofs.Tryz.prog S sel94 := GS.node gs91 gs93
theorem gs95 : GS Go.Proofs.Tryz.prog S sel95 := GS.node (GS.leaf (denFunS_good e108)) (GS.leaf (denFunS_good e109))
theorem gs96 : GS Go.Proofs.Tryz.prog S sel96 := GS.node (GS.leaf (denFunS_good e107)) gs95
theorem gs97 : GS Go.Proofs.Tryz.prog S sel97 := GS.node (GS.leaf (denFunS_good e111)) (GS.leaf (denFunS_good e112))
theorem gs98 : GS Go.Proofs.Tryz.prog S sel98 := GS.node (GS.leaf (denFunS_good e110)) gs97
theorem gs99 : GS Go.Proofs.Tryz.prog S sel99 := GS.node gs96 gs98
theorem gs100 : GS Go.Proofs.Tryz.prog S sel100 := GS.node gs94 gs99
theorem gs101 : GS Go.Proofs.Tryz.prog S sel101 := GS.node (GS.leaf (denFunS_good e114)) (GS.leaf (denFunS_good e115))
theorem gs102 : GS Go.Proofs.Tryz.prog S sel102 := GS.node (GS.leaf (denFunS_good e113)) gs101
theorem gs103 : GS Go.Proofs.Tryz.prog S sel103 := GS.node (GS.leaf (denFunS_good e117)) (GS.leaf (denFunS_good e118))
theorem gs104 : GS Go.Proofs.Tryz.prog S sel104 := GS.node (GS.leaf (denFunS_good e116)) gs103
theorem gs105 : GS Go.Proofs.Tryz.prog S sel105 := GS.node gs102 gs104
theorem gs106 : GS Go.Proofs.Tryz.prog S sel106 := GS.node (GS.leaf (denFunS_good e120)) (GS.leaf (denFunS_good e121))
theorem gs107 : GS Go.Proofs.Tryz.prog S sel107 := GS.node (GS.leaf (denFunS_good e119)) gs106
theorem gs108 : GS Go.Proofs.Tryz.prog S sel108 := GS.node (GS.leaf (denFunS_good e124)) (GS.leaf (denFunS_good e125))
theorem gs109 : GS Go.Proofs.Tryz.prog S sel109 := GS.node (GS.leaf (denFunS_good e123)) gs108
theorem gs110 : GS Go.Proofs.Tryz.prog S sel110 := GS.node gs107 gs109
theorem gs111 : GS Go.Proofs.Tryz.prog S sel111 := GS.node gs105 gs110
theorem gs112 : GS Go.Proofs.Tryz.prog S sel112 := GS.node gs100 gs111
theorem gs113 : GS Go.Proofs.Tryz.prog S sel113 := GS.node (GS.leaf (denFunS_good e126)) (GS.leaf (denFunS_good e127))
theorem gs114 : GS Go.Proofs.Tryz.prog S sel114 := GS.node (GS.leaf (denFunS_good e129)) (GS.leaf (denFunS_good e130))
theorem gs115 : GS Go.Proofs.Tryz.prog S sel115 := GS.node (GS.leaf (denFunS_good e128)) gs114
theorem gs116 : GS Go.Proofs.Tryz.prog S sel116 := GS.node gs113 gs115
theorem gs117 : GS Go.Proofs.Tryz.prog S sel117 := GS.node (GS.leaf (denFunS_good e132)) (GS.leaf (denFunS_good e133))
theorem gs118 : GS Go.Proofs.Tryz.prog S sel118 := GS.node (GS.leaf (denFunS_good e131)) gs117
theorem gs119 : GS Go.Proofs.Tryz.prog S sel119 := GS.node (GS.leaf (denFunS_good e135)) (GS.leaf (denFunS_good e136))
theorem gs120 : GS Go.Proofs.Tryz.prog S sel120 := GS.node (GS.leaf (denFunS_good e134)) gs119
theorem gs121 : GS Go.Proofs.Tryz.prog S sel121 := GS.node gs118 gs120
theorem gs122 : GS Go.Proofs.Tryz.prog S sel122 := GS.node gs116 gs121
theorem gs123 : GS Go.Proofs.Tryz.prog S sel123 := GS.node (GS.leaf (denFunS_good e138)) (GS.leaf (denFunS_good e139))
theorem gs124 : GS Go.Proofs.Tryz.prog S sel124 := GS.node (GS.leaf (denFunS_good e137)) gs123
theorem gs125 : GS Go.Proofs.Tryz.prog S sel125 := GS.node (GS.leaf (denFunS_good e141)) (GS.leaf (denFunS_good e142))
theorem gs126 : GS Go.Proofs.Tryz.prog S sel126 := GS.node (GS.leaf (denFunS_good e140)) gs125
theorem gs127 : GS Go.Proofs.Tryz.prog S sel127 := GS.node gs124 gs126
theorem gs128 : GS Go.Proofs.Tryz.prog S sel128 := GS.node (GS.leaf (denFunS_good e147)) (GS.leaf (denFunS_good e148))
theorem gs129 : GS Go.Proofs.Tryz.prog S sel129 := GS.node (GS.leaf (denFunS_good e143)) gs128
theorem gs130 : GS Go.Proofs.Tryz.prog S sel130 := GS.node (GS.leaf (denFunS_good e150)) (GS.leaf (denFunS_good e153))
theorem gs131 : GS Go.Proofs.Tryz.prog S sel131 := GS.node (GS.leaf (denFunS_good e149)) gs130
theorem gs132 : GS Go.Proofs.Tryz.prog S sel132 := GS.node gs129 gs131
theorem gs133 : GS Go.Proofs.Tryz.prog S sel133 := GS.node gs127 gs132
theorem gs134 : GS Go.Proofs.Tryz.prog S sel134 := GS.node gs122 gs133
theorem gs135 : GS Go.Proofs.Tryz.prog S sel135 := GS.node gs112 gs134
theorem gs136 : GS Go.Proofs.Tryz.prog S sel136 := GS.node (GS.leaf (denFunS_good e154)) (GS.leaf (denFunS_good e155))
theorem gs137 : GS Go.Proofs.Tryz.prog S sel137 := GS.node (GS.leaf (denFunS_good e157)) (GS.leaf (denFunS_good e158))
theorem gs138 : GS Go.Proofs.Tryz.prog S sel138 := GS.node (GS.leaf (denFunS_good e156)) gs137
theorem gs139 : GS Go.Proofs.Tryz.prog S sel139 := GS.node gs136 gs138
theorem gs140 : GS Go.Proofs.Tryz.prog S sel140 := GS.node (GS.leaf (denFunS_good e160)) (GS.leaf (denFunS_good e161))
theorem gs141 : GS Go.Proofs.Tryz.prog S sel141 := GS.node (GS.leaf (denFunS_good e159)) gs140
theorem gs142 : GS Go.Proofs.Tryz.prog S sel142 := GS.node (GS.leaf (denFunS_good e163)) (GS.leaf (denFunS_good e167))
theorem gs143 : GS Go.Proofs.Tryz.prog S sel143 := GS.node (GS.leaf (denFunS_good e162)) gs142
theorem gs144 : GS Go.Proofs.Tryz.prog S sel144 := GS.node gs141 gs143
theorem gs145 : GS Go.Proofs.Tryz.prog S sel145 := GS.node gs139 gs144
theorem gs146 : GS Go.Proofs.Tryz.prog S sel146 := GS.node (GS.leaf (denFunS_good e172)) (GS.leaf (denFunS_good e173))
theorem gs147 : GS Go.Proofs.Tryz.prog S sel147 := GS.node (GS.leaf (denFunS_good e168)) gs146
theorem gs148 : GS Go.Proofs.Tryz.prog S sel148 := GS.node (GS.leaf (denFunS_good e175)) (GS.leaf (denFunS_good e176))
theorem gs149 : GS Go.Proofs.Tryz.prog S sel149 := GS.node (GS.leaf (denFunS_good e174)) gs148
theorem gs150 : GS Go.Proofs.Tryz.prog S sel150 := GS.node gs147 gs149
theorem gs151 : GS Go.Proofs.Tryz.prog S sel151 := GS.node (GS.leaf (denFunS_good e178)) (GS.leaf (denFunS_good e179))
theorem gs152 : GS Go.Proofs.Tryz.prog S sel152 := GS.node (GS.leaf (denFunS_good e177)) gs151
theorem gs153 : GS Go.Proofs.Tryz.prog S sel153 := GS.node (GS.leaf (denFunS_good e182)) (GS.leaf (denFunS_good e183))
theorem gs154 : GS Go.Proofs.Tryz.prog S sel154 := GS.node (GS.leaf (denFunS_good e181)) gs153
theorem gs155 : GS Go.Proofs.Tryz.prog S sel155 := GS.node gs152 gs154
theorem gs156 : GS Go.Proofs.Tryz.prog S sel156 := GS.node gs150 gs155
theorem gs157 : GS Go.Proofs.Tryz.prog S sel157 := GS.node gs145 gs156
theorem gs158 : GS Go.Proofs.Tryz.prog S sel158 := GS.node (GS.leaf (denFunS_good e185)) (GS.leaf (denFunS_good e186))
theorem gs159 : GS Go.Proofs.Tryz.prog S sel159 := GS.node (GS.leaf (denFunS_good e184)) gs158
theorem gs160 : GS Go.Proofs.Tryz.prog S sel160 := GS.node (GS.leaf (denFunS_good e195)) (GS.leaf (denFunS_good e196))
theorem gs161 : GS Go.Proofs.Tryz.prog S sel161 := GS.node (GS.leaf (denFunS_good e189)) gs160
theorem gs162 : GS Go.Proofs.Tryz.prog S sel162 := GS.node gs159 gs161
theorem gs163 : GS Go.Proofs.Tryz.prog S sel163 := GS.node (GS.leaf (denFunS_good e198)) (GS.leaf (denFunS_good e200))
theorem gs164 : GS Go.Proofs.Tryz.prog S sel164 := GS.node (GS.leaf (denFunS_good e197)) gs163
theorem gs165 : GS Go.Proofs.Tryz.prog S sel165 := GS.node (GS.leaf (denFunS_good e211)) (GS.leaf (denFunS_good e212))
theorem gs166 : GS Go.Proofs.Tryz.prog S sel166 := GS.node (GS.leaf (denFunS_good e201)) gs165
theorem gs167 : GS Go.Proofs.Tryz.prog S sel167 := GS.node gs164 gs166
theorem gs168 : GS Go.Proofs.Tryz.prog S sel168 := GS.node gs162 gs167
theorem gs169 : GS Go.Proofs.Tryz.prog S sel169 := GS.node (GS.leaf (denFunS_good e219)) (GS.leaf (denFunS_good e223))
theorem gs170 : GS Go.Proofs.Tryz.prog S sel170 := GS.node (GS.leaf (denFunS_good e213)) gs169
theorem gs171 : GS Go.Proofs.Tryz.prog S sel171 := GS.node (GS.leaf (denFunS_good e228)) (GS.leaf (denFunS_good e236))
theorem gs172 : GS Go.Proofs.Tryz.prog S sel172 := GS.node (GS.leaf (denFunS_good e227)) gs171
theorem gs173 : GS Go.Proofs.Tryz.prog S sel173 := GS.node gs170 gs172
theorem gs174 : GS Go.Proofs.Tryz.prog S sel174 := GS.node (GS.leaf (denFunS_good e247)) (GS.leaf (denFunS_good e255))
theorem gs175 : GS Go.Proofs.Tryz.prog S sel175 := GS.node (GS.leaf (denFunS_good e237)) gs174
theorem gs176 : GS Go.Proofs.Tryz.prog S sel176 := GS.node (GS.leaf (denFunS_good e259)) (GS.leaf (denFunS_good e260))
theorem gs177 : GS Go.Proofs.Tryz.prog S sel177 := GS.node (GS.leaf (denFunS_good e256)) gs176
theorem gs178 : GS Go.Proofs.Tryz.prog S sel178 := GS.node gs175 gs177
theorem gs179 : GS Go.Proofs.Tryz.prog S sel179 := GS.node gs173 gs178
theorem gs180 : GS Go.Proofs.Tryz.prog S sel180 := GS.node gs168 gs179
theorem gs181 : GS Go.Proofs.Tryz.prog S sel181 := GS.node gs157 gs180
theorem gs182 : GS Go.Proofs.Tryz.prog S sel182 := GS.node gs135 gs181
theorem gs183 : GS Go.Proofs.Tryz.prog S sel183 := GS.node gs90 gs182
theorem gsTop (T : TT) (hT : GoodT Go.Proofs.Tryz.prog S T) : GoodT Go.Proofs.Tryz.prog S (tab T) := GS.tab gs183 T hT
end
end Go.Am
